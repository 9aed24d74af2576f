/- Plain words: loops of the laws' own helpers, orders, sorted lists. No program in sight. No statement of the seat is proved here. -/
import Derived.Test.YtofiipblinonoaaPl
import Derived.Test.YtofiipblinonoaaDv
import Derived.Sort.Walk0
import Derived.Lib.Bytealg
namespace Go.Proofs.Ytofiipblinonoaa
open Go.RowKit
set_option linter.unusedVariables false

/-! ### loops -/
theorem lenOK_t {n : Nat} (h : n ≤ 4294967296) : lenOK n = true := Nat.ble_eq_true_of_le h
theorem mkOK_t {n : Nat} (h : n ≤ 1048577) : mkOK (n : Int) = true := by simp [mkOK]; omega
/-! ### the order of strings -/
theorem bLt_irrefl : ∀ (a : List UInt8), bLt a a = false
  | [] => rfl
  | a :: x => by
    unfold bLt Op.bytesLess
    rw [show Op.bytesLess x x = false from bLt_irrefl x]
    simp
theorem bLt_trans : ∀ {a b c : List UInt8}, bLt a b = true → bLt b c = true → bLt a c = true
  | _, _, [], _, h => by cases ‹List UInt8› <;> simp [bLt, Op.bytesLess] at h
  | _, [], _ :: _, h, _ => by cases ‹List UInt8› <;> simp [bLt, Op.bytesLess] at h
  | [], _ :: _, _ :: _, _, _ => rfl
  | a :: x, b :: y, c :: z, h, k => by
    unfold bLt Op.bytesLess at h k ⊢
    simp only [Bool.or_eq_true, Bool.and_eq_true, decide_eq_true_eq, beq_iff_eq] at h k ⊢
    rcases h with h | ⟨rfl, h⟩
    · rcases k with k | ⟨rfl, k⟩
      · exact .inl (UInt8.lt_trans h k)
      · exact .inl h
    · rcases k with k | ⟨rfl, k⟩
      · exact .inl k
      · exact .inr ⟨rfl, bLt_trans h k⟩
theorem bLt_tri : ∀ {a b : List UInt8}, bLt a b = false → bLt b a = false → a = b
  | [], [], _, _ => rfl
  | [], _ :: _, h, _ => by simp [bLt, Op.bytesLess] at h
  | _ :: _, [], _, h => by simp [bLt, Op.bytesLess] at h
  | a :: x, b :: y, h, k => by
    unfold bLt Op.bytesLess at h k
    simp only [Bool.or_eq_false_iff, Bool.and_eq_false_imp, decide_eq_false_iff_not, beq_iff_eq] at h k
    have e : a = b := by
      rcases UInt8.lt_or_lt_of_ne (a := a) (b := b) |> fun f => Classical.em (a = b) |>.imp id f with e | e | e
      · exact e
      · exact absurd e h.1
      · exact absurd e k.1
    subst e
    rw [bLt_tri (h.2 rfl) (k.2 rfl)]
theorem le_bLt (a b : List UInt8) : decide (a ≤ b) = !(bLt b a) := by
  have h := Go.Proofs.bytesLess_eq b a
  unfold bLt
  rw [h]
  by_cases hlt : b < a
  · have : ¬ a ≤ b := List.not_le.2 hlt
    rw [decide_eq_true hlt, decide_eq_false this]
    rfl
  · have : a ≤ b := List.not_lt.1 hlt
    rw [decide_eq_false hlt, decide_eq_true this]
    rfl
/-! ### sorted lists -/
/-- two lists in order, with the same elements as often, are one -/
theorem sorted_one {α : Type} {le : α → α → Prop} (anti : ∀ a b, le a b → le b a → a = b) : ∀ {l m : List α}, l.Perm m → l.Pairwise le → m.Pairwise le → l = m
  | [], m, hp, _, _ => hp.nil_eq
  | a :: l, [], hp, _, _ => by have := hp.length_eq; simp at this
  | a :: l, b :: m, hp, hl, hm => by
    have e : a = b := by
      rcases List.mem_cons.1 (hp.subset (List.mem_cons_self ..)) with e | e
      · exact e
      · rcases List.mem_cons.1 (hp.symm.subset (List.mem_cons_self ..)) with e' | e'
        · exact e'.symm
        · exact anti _ _ ((List.pairwise_cons.1 hl).1 _ e') ((List.pairwise_cons.1 hm).1 _ e)
    subst e
    rw [sorted_one anti (List.Perm.cons_inv hp) (List.pairwise_cons.1 hl).2 (List.pairwise_cons.1 hm).2]
end Go.Proofs.Ytofiipblinonoaa
