/- Plain: sets of strings as sorted lists, program and reference. No statement of the seat is proved here. -/
import Derived.Test.YtofiipblinonoaaXz
import Derived.Test.YtofiipblinonoaaPe
namespace Go.Proofs.Ytofiipblinonoaa
open Go.RowKit
set_option linter.unusedVariables false
set_option linter.unusedSimpArgs false

theorem subL_take {α : Type} (xs : List α) (k : Nat) : subL xs 0 (k : Int) = xs.take k := by simp [subL]
theorem subL_drop {α : Type} (xs : List α) (k : Nat) : subL xs (k : Int) (xs.length : Int) = xs.drop k := by
  unfold subL
  rw [Int.toNat_natCast, Int.toNat_natCast]
  exact List.take_of_length_le (by simp)
theorem subR_k {α : Type} {xs : List α} {k : Nat} (h : k ≤ xs.length) : subR 0 (k : Int) xs.length = true := subR_iff.2 ⟨by omega, by omega, by omega⟩
theorem subR_d {α : Type} {xs : List α} {k : Nat} (h : k ≤ xs.length) : subR (k : Int) (xs.length : Int) xs.length = true := subR_iff.2 ⟨by omega, by omega, by omega⟩
theorem loop_plc {α : Type} {lt : α → α → Bool} {x : α} {l : List α} {L : Nat → Int → Option Int} (hs : ∀ k (i : Nat) y, l[i]? = some y → L (k + 1) (i : Int) = bif lt y x then L k ((i + 1 : Nat) : Int) else some (i : Int)) (he : ∀ k, L (k + 1) (l.length : Int) = some (l.length : Int)) {fu : Nat} (hf : l.length < fu) :
    L fu (0 : Int) = some ((plc lt x l : Nat) : Int) := by
  have key : ∀ m i k, i + m = l.length → m < k → L k ((i : Nat) : Int) = some ((i + plc lt x (l.drop i) : Nat) : Int) := by
    intro m
    induction m with
    | zero =>
      intro i k hi hk
      obtain ⟨k, rfl⟩ : ∃ q, k = q + 1 := ⟨k - 1, by omega⟩
      obtain rfl : i = l.length := by omega
      rw [he, List.drop_length]
      rfl
    | succ m ih =>
      intro i k hi hk
      obtain ⟨k, rfl⟩ : ∃ q, k = q + 1 := ⟨k - 1, by omega⟩
      have hx := List.getElem?_eq_getElem (show i < l.length by omega)
      rw [hs k i _ hx, drop_cons hx, plc]
      cases lt l[i] x
      · rfl
      · rw [cond_true, cond_true, ih (i + 1) k (by omega) (by omega)]
        congr 2
        omega
  have := key l.length 0 fu (by omega) hf
  rwa [show ((0 : Nat) : Int) = 0 from rfl, List.drop_zero, Nat.zero_add] at this
theorem put_t {fu : Nat} {l : List (List UInt8)} {x : List UInt8} {tw : Bool} (hf : l.length < fu) (hl : l.length ≤ 2147483648) : M_spec_l3Put fu l x tw = some (bif tw then putW bLt l x else putS bLt l x) := by
  unfold M_spec_l3Put
  have h := loop_plc (lt := bLt) (x := x) (l := l) (L := M_spec_l3Put_L0 fu l x) (fun k i y hy => by
    have hi := at_lt hy
    rw [M_spec_l3Put_L0]
    simp only [lt_t hi, inR_t hi, gtD_get hy, bd_eq, Bool.or_true, Bool.true_and, ck_tt, i64B_c (show i ≤ 4294967296 by omega), succ_i]) (fun k => by rw [M_spec_l3Put_L0, lt_f]; rfl) hf
  have hp := plc_le (lt := bLt) (x := x) l
  rw [h, cl_true]
  simp only [bd_eq, subL_take, subL_drop, subR_k hp, subR_d hp, ck_tt, List.length_nil, List.length_append, List.length_take, List.length_drop, List.length_singleton, List.nil_append, Nat.zero_add, lenOK_t (show min (plc bLt x l) l.length ≤ 4294967296 by omega), lenOK_t (show min (plc bLt x l) l.length + 1 ≤ 4294967296 by omega), lenOK_t (show min (plc bLt x l) l.length + 1 + (l.length - plc bLt x l) ≤ 4294967296 by omega)]
  have hins : l.take (plc bLt x l) ++ [x] ++ l.drop (plc bLt x l) = putW bLt l x := by simp [putW, insAt]
  rw [hins]
  unfold putS
  by_cases hlt : plc bLt x l < l.length
  · have hg := List.getElem?_eq_getElem hlt
    rw [lt_t hlt, inR_t hlt, gtD_get hg, hg]
    have : (some l[plc bLt x l] == some x) = (l[plc bLt x l] == x) := rfl
    rw [this]
    cases tw <;> cases (l[plc bLt x l] == x) <;> rfl
  · have e : decide (((plc bLt x l : Nat) : Int) < (l.length : Int)) = false := decide_eq_false (by omega)
    have e2 : l[plc bLt x l]? = none := List.getElem?_eq_none (by omega)
    rw [e, e2]
    cases tw <;> rfl
/-! the library's ways -/
theorem clone_t {fu : Nat} {l : List (List UInt8)} (hl : l.length ≤ 4294967296) : M_slices_Clone_string_string fu l = some l := by
  unfold M_slices_Clone_string_string
  rw [List.nil_append, ck_t (lenOK_t (by simpa using hl))]
theorem sortS_t {fu : Nat} {l : List (List UInt8)} (hl : l.length ≤ 4294967296) : M_sortS fu l = some (l.mergeSort fun x y => !(bLt y x)) := by
  unfold M_sortS
  rw [ck_t (lenOK_t hl)]
  have : (fun x y : List UInt8 => decide (x ≤ y)) = fun x y => !(bLt y x) := by
    funext x y
    exact le_bLt x y
  rw [this]
end Go.Proofs.Ytofiipblinonoaa
