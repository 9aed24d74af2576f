/- Plain: sizes of intersections and unions, MeetsJaccard, program and reference alike. No statement of the seat is proved here. -/
import Derived.Test.YtofiipblinonoaaXsi
import Derived.Test.YtofiipblinonoaaXst
namespace Go.Proofs.Ytofiipblinonoaa
open Go.RowKit
set_option linter.unusedVariables false
set_option linter.unusedSimpArgs false

/-- what two sorted lists have in common, as often as both have it -/
def mrgN : Nat → List (List UInt8) → List (List UInt8) → Nat
  | 0, _, _ => 0
  | _ + 1, [], _ => 0
  | _ + 1, _ :: _, [] => 0
  | n + 1, x :: xs, y :: ys => bif bLt x y then mrgN n xs (y :: ys) else bif bLt y x then mrgN n (x :: xs) ys else mrgN n xs ys + 1
theorem subL_tail {α : Type} (x : α) (xs : List α) : subL (x :: xs) 1 (((x :: xs).length : Nat) : Int) = xs := by
  rw [show (1 : Int) = ((1 : Nat) : Int) from rfl, subL_drop]
  rfl
theorem mrg_t {fu : Nat} : ∀ (n k : Nat) (xs ys : List (List UInt8)) (c : Int), xs.length + ys.length ≤ n → n < k → 0 ≤ c → c + n ≤ 4294967296 → M_impl_CommonGrams_L0 fu k xs ys c = some (c + mrgN n xs ys)
  | 0, k, xs, ys, c, hn, hk, h0, h1 => by
    obtain ⟨k, rfl⟩ : ∃ q, k = q + 1 := ⟨k - 1, by omega⟩
    obtain rfl : xs = [] := List.eq_nil_of_length_eq_zero (by omega)
    rw [M_impl_CommonGrams_L0]
    simp [bd_eq, mrgN]
  | n + 1, k, [], ys, c, hn, hk, h0, h1 => by
    obtain ⟨k, rfl⟩ : ∃ q, k = q + 1 := ⟨k - 1, by omega⟩
    rw [M_impl_CommonGrams_L0]
    simp [bd_eq, mrgN]
  | n + 1, k, x :: xs, [], c, hn, hk, h0, h1 => by
    obtain ⟨k, rfl⟩ : ∃ q, k = q + 1 := ⟨k - 1, by omega⟩
    rw [M_impl_CommonGrams_L0]
    simp [bd_eq, mrgN]
  | n + 1, k, x :: xs, y :: ys, c, hn, hk, h0, h1 => by
    obtain ⟨k, rfl⟩ : ∃ q, k = q + 1 := ⟨k - 1, by omega⟩
    simp only [List.length_cons] at hn
    have hx : decide ((0 : Int) < ((x :: xs).length : Int)) = true := lt_0 (by simp)
    have hy : decide ((0 : Int) < ((y :: ys).length : Int)) = true := lt_0 (by simp)
    have sx : subR (1 : Int) (((x :: xs).length : Nat) : Int) (x :: xs).length = true := subR_d (k := 1) (by simp)
    have sy : subR (1 : Int) (((y :: ys).length : Nat) : Int) (y :: ys).length = true := subR_d (k := 1) (by simp)
    rw [M_impl_CommonGrams_L0, hx, hy]
    simp only [Bool.and_self, bd_eq, cond_true, inR_0 (show 0 < (x :: xs).length by simp), inR_0 (show 0 < (y :: ys).length by simp), ck_tt, gtD_0 (show (x :: xs)[0]? = some x from rfl), gtD_0 (show (y :: ys)[0]? = some y from rfl), sx, sy, subL_tail, i64B_t (show -9223372036854775808 ≤ c + 1 by omega) (show c + 1 ≤ 9223372036854775807 by omega)]
    unfold mrgN
    cases bLt x y
    · cases bLt y x
      · rw [cond_false, cond_false, cond_false, cond_false, mrg_t n k xs ys (c + 1) (by omega) (by omega) (by omega) (by omega)]
        congr 1
        omega
      · rw [cond_false, cond_true, cond_false, cond_true]
        exact mrg_t n k (x :: xs) ys c (by simp; omega) (by omega) h0 (by omega)
    · rw [cond_true, cond_true]
      exact mrg_t n k xs (y :: ys) c (by simp; omega) (by omega) h0 (by omega)
end Go.Proofs.Ytofiipblinonoaa
