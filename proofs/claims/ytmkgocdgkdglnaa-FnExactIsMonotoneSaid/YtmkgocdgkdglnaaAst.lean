/- Plain: sets of strings as sorted lists, program and reference. No statement of the seat is proved here. -/
import Derived.Test.YtmkgocdgkdglnaaAz
import Derived.Test.YtmkgocdgkdglnaaPe
namespace Go.Proofs.Ytmkgocdgkdglnaa
open Go.RowKit
set_option linter.unusedVariables false
set_option linter.unusedSimpArgs false

theorem subL_take {α : Type} (xs : List α) (k : Nat) : subL xs 0 (k : Int) = xs.take k := by simp [subL]
theorem subL_drop {α : Type} (xs : List α) (k : Nat) : subL xs (k : Int) (xs.length : Int) = xs.drop k := by
  unfold subL
  rw [Int.toNat_natCast, Int.toNat_natCast]
  exact List.take_of_length_le (by simp)
theorem subR_k {α : Type} {xs : List α} {k : Nat} (h : k ≤ xs.length) : subR 0 (k : Int) xs.length = true := subR_iff.2 ⟨by omega, by omega, by omega⟩
theorem subR_d {α : Type} {xs : List α} {k : Nat} (h : k ≤ xs.length) : subR (k : Int) (xs.length : Int) xs.length = true := subR_iff.2 ⟨by omega, by omega, by omega⟩
theorem loop_plc {α : Type} {lt : α → α → Bool} {x : α} {l : List α} {L : Nat → Int → Option Int} (hs : ∀ k (i : Nat) y, l[i]? = some y → L (k + 1) (i : Int) = bif lt y x then L k ((i + 1 : Nat) : Int) else some (i : Int)) (he : ∀ k, L (k + 1) (l.length : Int) = some (l.length : Int)) {fu : Nat} (hf : l.length < fu) :
    L fu (0 : Int) = some ((plc lt x l : Nat) : Int) := by
  have key : ∀ m i k, i + m = l.length → m < k → L k ((i : Nat) : Int) = some ((i + plc lt x (l.drop i) : Nat) : Int) := by
    intro m
    induction m with
    | zero =>
      intro i k hi hk
      obtain ⟨k, rfl⟩ : ∃ q, k = q + 1 := ⟨k - 1, by omega⟩
      obtain rfl : i = l.length := by omega
      rw [he, List.drop_length]
      rfl
    | succ m ih =>
      intro i k hi hk
      obtain ⟨k, rfl⟩ : ∃ q, k = q + 1 := ⟨k - 1, by omega⟩
      have hx := List.getElem?_eq_getElem (show i < l.length by omega)
      rw [hs k i _ hx, drop_cons hx, plc]
      cases lt l[i] x
      · rfl
      · rw [cond_true, cond_true, ih (i + 1) k (by omega) (by omega)]
        congr 2
        omega
  have := key l.length 0 fu (by omega) hf
  rwa [show ((0 : Nat) : Int) = 0 from rfl, List.drop_zero, Nat.zero_add] at this
/-- the rest, with zeros behind -/
theorem sub_zeros {α : Type} {z : α} {s : List α} {w : Nat} (h : w ≤ s.length) : subL (s.take w ++ List.replicate (s.length - w) z) 0 (w : Int) = s.take w := by
  rw [subL_take, List.take_append_of_le_length (by simp; omega), List.take_take, Nat.min_self]
theorem zeros_length {α : Type} {z : α} {s : List α} {w : Nat} (h : w ≤ s.length) : (s.take w ++ List.replicate (s.length - w) z).length = s.length := by simp; omega
end Go.Proofs.Ytmkgocdgkdglnaa
