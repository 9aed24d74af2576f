/- Plain: feature vectors, program and reference alike. No statement of the seat is proved here. -/
import Derived.Test.YtmkgocdgkdglnaaArs
namespace Go.Proofs.Ytmkgocdgkdglnaa
open Go.RowKit
set_option linter.unusedVariables false

def fvB (xs : List Int) : Bool := (findB (fun k => !inI (gtD xs k) 0 1000) 0 xs.length).isNone && ((xs.length : Int) == 6)
theorem spec_fv {xs : List Int} {fu : Nat} (hn : xs.length ≤ 1048576) (hf : 1048577 ≤ fu) : M_spec_IsFeatureVector fu xs = some (fvB xs) := by
  have h := loop_find (L := M_spec_IsFeatureVector_L0 fu xs) (n := xs.length) (P := fun k => !inI (gtD xs k) 0 1000) (ret := fun _ => false) (fun k i hi => by
    rw [M_spec_IsFeatureVector_L0]
    have h1 : decide ((i : Int) < (xs.length : Int)) = true := by simpa using hi
    rw [h1, cond_true, ck_t (inR_t hi), l1In_t, cl_true, ck_t (i64B_t (by omega) (by omega))]
    rfl) (fun k => by
    rw [M_spec_IsFeatureVector_L0]
    simp) xs.length 0 fu (by omega) (by omega)
  unfold M_spec_IsFeatureVector fvB
  rw [show ((0 : Nat) : Int) = 0 from rfl] at h
  rw [h, cl_true]
  cases findB (fun k => !inI (gtD xs k) 0 1000) 0 xs.length <;> rfl
theorem index_int {xs : List Int} {fu : Nat} {F : Int → Option Bool} {p : Int → Bool} (hF : ∀ x, F x = some (p x)) (hn : xs.length ≤ 1048576) (hf : 1048577 ≤ fu) :
    M_slices_ContainsFunc_int_int fu xs F = some (findB (fun k => p (gtD xs k)) 0 xs.length).isSome := by
  have h := loop_find (L := M_slices_IndexFunc_int_int_L0 fu xs F) (n := xs.length) (P := fun k => p (gtD xs k)) (ret := fun j => (j : Int)) (fun k i hi => by
    rw [M_slices_IndexFunc_int_int_L0]
    have h1 : decide ((i : Int) < (xs.length : Int)) = true := by simpa using hi
    rw [h1, cond_true, ck_t (inR_t hi), hF, cl_true, ck_t (i64B_t (by omega) (by omega))]
    rfl) (fun k => by
    rw [M_slices_IndexFunc_int_int_L0]
    simp) xs.length 0 fu (by omega) (by omega)
  unfold M_slices_ContainsFunc_int_int M_slices_IndexFunc_int_int
  rw [show ((0 : Nat) : Int) = 0 from rfl] at h
  rw [h, cl_true]
  cases findB (fun k => p (gtD xs k)) 0 xs.length with
  | none => rfl
  | some j =>
    show some (decide ((0 : Int) ≤ (j : Int))) = _
    rw [decide_eq_true (by omega)]
    rfl
theorem impl_fv {xs : List Int} {fu : Nat} (hn : xs.length ≤ 1048576) (hf : 1048577 ≤ fu) : M_impl_IsFeatureVector fu xs = some (fvB xs) := by
  unfold M_impl_IsFeatureVector fvB
  rw [index_int (F := fun x => M_impl_IsFeatureVector_1 fu x) (p := fun x => !inI x 0 1000) (fun x => rfl) hn hf, cl_if, bd_eq]
  cases findB (fun k => !inI (gtD xs k) 0 1000) 0 xs.length <;> cases ((xs.length : Int) == 6) <;> rfl
end Go.Proofs.Ytmkgocdgkdglnaa
