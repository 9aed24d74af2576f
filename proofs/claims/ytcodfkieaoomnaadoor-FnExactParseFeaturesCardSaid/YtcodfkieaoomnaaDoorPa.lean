/- Plain words: loops of the laws' own helpers, orders, sorted lists. No program in sight. No statement of the seat is proved here. -/
import Derived.Test.YtcodfkieaoomnaaDoorPl
import Derived.Test.YtcodfkieaoomnaaDoorDv
import Derived.Sort.Walk0
import Derived.Lib.Bytealg
namespace Go.Proofs.YtcodfkieaoomnaaDoor
open Go.RowKit
set_option linter.unusedVariables false

/-! ### loops -/
theorem loop_sz {α : Type} {xs : List α} {Q : α → Prop} {L : Nat → Int → Int → Option (Ex Int Int)}
    (hs : ∀ k y i x, i < xs.length → xs[i]? = some x → 0 ≤ y → y ≤ 1048576 → ∃ r, r ≤ y ∧ (0 ≤ r → Q x) ∧ L (k + 1) y ((i : Nat) : Int) = bif decide (r < 0) then some (.ret (-1)) else L k r ((i + 1 : Nat) : Int))
    (he : ∀ k y, L (k + 1) y ((xs.length : Nat) : Int) = some (.go y)) :
    ∀ m i k y, i + m = xs.length → m < k → 0 ≤ y → y ≤ 1048576 → (∃ r, L k y ((i : Nat) : Int) = some (.go r) ∧ 0 ≤ r ∧ r ≤ y ∧ ∀ (j : Nat) x, i ≤ j → xs[j]? = some x → Q x) ∨ L k y ((i : Nat) : Int) = some (.ret (-1)) := by
  intro m
  induction m with
  | zero =>
    intro i k y hi hk h0 h1
    obtain ⟨k, rfl⟩ : ∃ q, k = q + 1 := ⟨k - 1, by omega⟩
    obtain rfl : i = xs.length := by omega
    refine .inl ⟨y, he k y, h0, Int.le_refl _, fun j x hj hx => ?_⟩
    have := (List.getElem?_eq_some_iff.1 hx).1
    omega
  | succ m ih =>
    intro i k y hi hk h0 h1
    obtain ⟨k, rfl⟩ : ∃ q, k = q + 1 := ⟨k - 1, by omega⟩
    have hlt : i < xs.length := by omega
    obtain ⟨r, hr1, hr2, hr3⟩ := hs k y i _ hlt (List.getElem?_eq_getElem hlt) h0 h1
    by_cases hr : r < 0
    · right
      rw [hr3, decide_eq_true hr]
      rfl
    · rw [hr3, decide_eq_false hr]
      rcases ih (i + 1) k r (by omega) (by omega) (by omega) (by omega) with ⟨r', h2, h3, h4, h5⟩ | h2
      · refine .inl ⟨r', h2, h3, by omega, fun j x hj hx => ?_⟩
        by_cases e : j = i
        · subst e
          rw [List.getElem?_eq_getElem hlt] at hx
          injection hx with hx
          rw [← hx]
          exact hr2 (by omega)
        · exact h5 j x (by omega) hx
      · exact .inr h2
/-- a loop that never ends early -/
theorem loop_all {ρ : Type} {L : Nat → Int → Option ρ} {n : Nat} {r : ρ} (hs : ∀ k i, i < n → L (k + 1) ((i : Nat) : Int) = L k ((i + 1 : Nat) : Int)) (he : ∀ k, L (k + 1) ((n : Nat) : Int) = some r) :
    ∀ m i k, i + m = n → m < k → L k ((i : Nat) : Int) = some r := by
  intro m
  induction m with
  | zero =>
    intro i k hi hk
    obtain ⟨k, rfl⟩ : ∃ q, k = q + 1 := ⟨k - 1, by omega⟩
    obtain rfl : i = n := by omega
    exact he k
  | succ m ih =>
    intro i k hi hk
    obtain ⟨k, rfl⟩ : ∃ q, k = q + 1 := ⟨k - 1, by omega⟩
    rw [hs k i (by omega)]
    exact ih (i + 1) k (by omega) (by omega)
/-- what stands in a row that has been marked -/
def mkL {α : Type} (f : Int → α) (w c : Int) (n : Nat) : List α := (List.range n).map fun (j : Nat) => f (c + w * (j : Int))
theorem mkL_get {α : Type} {f : Int → α} {w c : Int} {n i : Nat} (h : i < n) : (mkL f w c n)[i]? = some (f (c + w * (i : Int))) := by
  unfold mkL
  rw [List.getElem?_map, List.getElem?_range h]
  rfl
theorem mkL_length {α : Type} {f : Int → α} {w c : Int} {n : Nat} : (mkL f w c n).length = n := by simp [mkL]
theorem loop_mark {α : Type} {f : Int → α} {w : Int} {n : Nat} {c : Int} {L : Nat → Int → Int → List α → Option (Int × List α)}
    (hs : ∀ k i ys, i < n → ys.length = n → L (k + 1) (c + w * (i : Int)) ((i : Nat) : Int) ys = L k (c + w * ((i + 1 : Nat) : Int)) ((i + 1 : Nat) : Int) (ys.set i (f (c + w * (i : Int)))))
    (he : ∀ k ys, ys.length = n → L (k + 1) (c + w * (n : Int)) ((n : Nat) : Int) ys = some (c + w * (n : Int), ys)) :
    ∀ m i k ys, i + m = n → m < k → ys.length = n → ys.take i = (mkL f w c n).take i → L k (c + w * (i : Int)) ((i : Nat) : Int) ys = some (c + w * (n : Int), mkL f w c n) := by
  intro m
  induction m with
  | zero =>
    intro i k ys hi hk hl ht
    obtain ⟨k, rfl⟩ : ∃ q, k = q + 1 := ⟨k - 1, by omega⟩
    obtain rfl : i = n := by omega
    rw [he k ys hl]
    rw [List.take_of_length_le (by omega), List.take_of_length_le (by rw [mkL_length]; exact Nat.le_refl _)] at ht
    rw [ht]
  | succ m ih =>
    intro i k ys hi hk hl ht
    obtain ⟨k, rfl⟩ : ∃ q, k = q + 1 := ⟨k - 1, by omega⟩
    rw [hs k i ys (by omega) hl]
    refine ih (i + 1) k _ (by omega) (by omega) (by rw [List.length_set]; exact hl) ?_
    apply List.ext_getElem?
    intro j
    rw [List.getElem?_take, List.getElem?_take]
    split
    · rename_i hj
      rcases Nat.lt_or_ge j i with h | h
      · have := congrArg (fun l => l[j]?) ht
        simp only [List.getElem?_take, if_pos h] at this
        rw [List.getElem?_set_ne (by omega)]
        exact this
      · obtain rfl : j = i := by omega
        rw [List.getElem?_set_self (by omega), mkL_get (by omega)]
    · rfl
theorem loop_held {L : Nat → Int → Int → Option (Ex Int Int)} {w c : Int} {n : Nat}
    (hs : ∀ k i, i < n → L (k + 1) (c + w * (i : Int)) ((i : Nat) : Int) = L k (c + w * ((i + 1 : Nat) : Int)) ((i + 1 : Nat) : Int))
    (he : ∀ k, L (k + 1) (c + w * (n : Int)) ((n : Nat) : Int) = some (.go (c + w * (n : Int)))) :
    ∀ m i k, i + m = n → m < k → L k (c + w * (i : Int)) ((i : Nat) : Int) = some (.go (c + w * (n : Int))) := by
  intro m
  induction m with
  | zero =>
    intro i k hi hk
    obtain ⟨k, rfl⟩ : ∃ q, k = q + 1 := ⟨k - 1, by omega⟩
    obtain rfl : i = n := by omega
    exact he k
  | succ m ih =>
    intro i k hi hk
    obtain ⟨k, rfl⟩ : ∃ q, k = q + 1 := ⟨k - 1, by omega⟩
    rw [hs k i (by omega)]
    exact ih (i + 1) k (by omega) (by omega)
theorem i64B_s {x : Int} (h0 : -4611686018427387904 ≤ x) (h1 : x ≤ 4611686018427387904) : i64B x = true := i64B_t (by omega) (by omega)
theorem lenOK_t {n : Nat} (h : n ≤ 4294967296) : lenOK n = true := Nat.ble_eq_true_of_le h
theorem mkOK_t {n : Nat} (h : n ≤ 1048577) : mkOK (n : Int) = true := by simp [mkOK]; omega
/-! ### the order of strings -/
theorem bLt_irrefl : ∀ (a : List UInt8), bLt a a = false
  | [] => rfl
  | a :: x => by
    unfold bLt Op.bytesLess
    rw [show Op.bytesLess x x = false from bLt_irrefl x]
    simp
theorem bLt_trans : ∀ {a b c : List UInt8}, bLt a b = true → bLt b c = true → bLt a c = true
  | _, _, [], _, h => by cases ‹List UInt8› <;> simp [bLt, Op.bytesLess] at h
  | _, [], _ :: _, h, _ => by cases ‹List UInt8› <;> simp [bLt, Op.bytesLess] at h
  | [], _ :: _, _ :: _, _, _ => rfl
  | a :: x, b :: y, c :: z, h, k => by
    unfold bLt Op.bytesLess at h k ⊢
    simp only [Bool.or_eq_true, Bool.and_eq_true, decide_eq_true_eq, beq_iff_eq] at h k ⊢
    rcases h with h | ⟨rfl, h⟩
    · rcases k with k | ⟨rfl, k⟩
      · exact .inl (UInt8.lt_trans h k)
      · exact .inl h
    · rcases k with k | ⟨rfl, k⟩
      · exact .inl k
      · exact .inr ⟨rfl, bLt_trans h k⟩
theorem bLt_tri : ∀ {a b : List UInt8}, bLt a b = false → bLt b a = false → a = b
  | [], [], _, _ => rfl
  | [], _ :: _, h, _ => by simp [bLt, Op.bytesLess] at h
  | _ :: _, [], _, h => by simp [bLt, Op.bytesLess] at h
  | a :: x, b :: y, h, k => by
    unfold bLt Op.bytesLess at h k
    simp only [Bool.or_eq_false_iff, Bool.and_eq_false_imp, decide_eq_false_iff_not, beq_iff_eq] at h k
    have e : a = b := by
      rcases UInt8.lt_or_lt_of_ne (a := a) (b := b) |> fun f => Classical.em (a = b) |>.imp id f with e | e | e
      · exact e
      · exact absurd e h.1
      · exact absurd e k.1
    subst e
    rw [bLt_tri (h.2 rfl) (k.2 rfl)]
theorem bLt_asymm {a b : List UInt8} (h : bLt a b = true) : bLt b a = false := by
  cases hb : bLt b a
  · rfl
  · have := bLt_trans h hb
    rw [bLt_irrefl] at this
    cases this
theorem cmpB_lt : ∀ (a b : List UInt8), Lib.compareBytes a b = bif bLt a b then -1 else bif bLt b a then 1 else 0
  | [], [] => rfl
  | [], _ :: _ => rfl
  | _ :: _, [] => rfl
  | a :: x, b :: y => by
    unfold Lib.compareBytes bLt Op.bytesLess
    by_cases h1 : a < b
    · simp [h1]
    · by_cases h2 : b < a
      · have hne : ¬ (a == b) = true := fun e => by rw [beq_iff_eq] at e; subst e; exact h1 h2
        simp [h1, h2, Bool.eq_false_iff.2 hne]
      · have e : a = b := by
          rcases Classical.em (a = b) with e | e
          · exact e
          · rcases UInt8.lt_or_lt_of_ne e with e | e
            · exact absurd e h1
            · exact absurd e h2
        subst e
        rw [if_neg h1, if_neg h1, cmpB_lt x y]
        simp [h1, bLt]
theorem le_bLt (a b : List UInt8) : decide (a ≤ b) = !(bLt b a) := by
  have h := Go.Proofs.bytesLess_eq b a
  unfold bLt
  rw [h]
  by_cases hlt : b < a
  · have : ¬ a ≤ b := List.not_le.2 hlt
    rw [decide_eq_true hlt, decide_eq_false this]
    rfl
  · have : a ≤ b := List.not_lt.1 hlt
    rw [decide_eq_false hlt, decide_eq_true this]
    rfl
/-! ### sorted lists -/
/-- two lists in order, with the same elements as often, are one -/
theorem sorted_one {α : Type} {le : α → α → Prop} (anti : ∀ a b, le a b → le b a → a = b) : ∀ {l m : List α}, l.Perm m → l.Pairwise le → m.Pairwise le → l = m
  | [], m, hp, _, _ => hp.nil_eq
  | a :: l, [], hp, _, _ => by have := hp.length_eq; simp at this
  | a :: l, b :: m, hp, hl, hm => by
    have e : a = b := by
      rcases List.mem_cons.1 (hp.subset (List.mem_cons_self ..)) with e | e
      · exact e
      · rcases List.mem_cons.1 (hp.symm.subset (List.mem_cons_self ..)) with e' | e'
        · exact e'.symm
        · exact anti _ _ ((List.pairwise_cons.1 hl).1 _ e') ((List.pairwise_cons.1 hm).1 _ e)
    subst e
    rw [sorted_one anti (List.Perm.cons_inv hp) (List.pairwise_cons.1 hl).2 (List.pairwise_cons.1 hm).2]
end Go.Proofs.YtcodfkieaoomnaaDoor
