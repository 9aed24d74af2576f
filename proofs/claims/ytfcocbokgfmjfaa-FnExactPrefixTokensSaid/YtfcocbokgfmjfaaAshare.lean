/- Plain: what the laws SharePrefix, OrderTokens, PrefixTokens ask. No statement of the seat is proved here. -/
import Derived.Test.YtfcocbokgfmjfaaAtf
import Derived.Test.YtfcocbokgfmjfaaAh
namespace Go.Proofs.Ytfcocbokgfmjfaa
open Go.RowKit
set_option linter.unusedVariables false

theorem w_len {α : Type} {f : α → Nat} {xs : List α} (h : wL f xs ≤ 1048576) : xs.length ≤ 1048576 ∧ ∀ x ∈ xs, f x ≤ 1048576 := by
  unfold wL at h
  exact ⟨by omega, fun x hx => Nat.le_trans (sz_mem hx) (by omega)⟩
theorem perm_sum {xs ys : List Nat} (h : xs.Perm ys) : xs.sum = ys.sum := by
  induction h with
  | nil => rfl
  | cons x _ ih => simp [ih]
  | swap x y l => simp; omega
  | trans _ _ h1 h2 => exact h1.trans h2
theorem w_sub {α : Type} {f : α → Nat} {xs ys : List α} (hp : ys.Perm xs) : wL f ys = wL f xs := by
  unfold wL
  rw [hp.length_eq, perm_sum (hp.map f)]
theorem w_take {α : Type} {f : α → Nat} : ∀ (xs : List α) (n : Nat), wL f (xs.take n) ≤ wL f xs
  | [], n => by simp [wL]
  | x :: xs, 0 => by simp [wL]
  | x :: xs, n + 1 => by
    have := w_take (f := f) xs n
    unfold wL at this ⊢
    simp only [List.take_succ_cons, List.length_cons, List.map_cons, List.sum_cons]
    omega
theorem hs_SharePrefix {a0 : List ((List UInt8) × (Int))} {a1 a2 : List (List UInt8)} {a3 : Int} (h0 : (qS (qP qB qI)) a0) (h1 : (qS qB) a1) (h2 : (qS qB) a2) (h3 : qI a3) (hw : w_TokenCountS a0 + w_StringS a1 + w_StringS a2 ≤ 1048576) :
    ∃ r : Bool, M_spec_SharePrefix 1048577 a0 a1 a2 a3 = some r ∧ M_impl_SharePrefix 1048577 a0 a1 a2 a3 = some r := by
  have k0 := w_len (xs := a0) (f := w_TokenCount) (by unfold w_TokenCountS at hw; omega)
  have k1 := w_len (xs := a1) (f := fun s => s.length) (by unfold w_StringS at hw; omega)
  have k2 := w_len (xs := a2) (f := fun s => s.length) (by unfold w_StringS at hw; omega)
  exact ⟨_, specShare_t (Nat.le_refl _) k0.1 k1.1 k1.2 k2.1 k2.2, implShare_t (Nat.le_refl _) k0.1 k1.1 k1.2 k2.1 k2.2⟩
theorem hs_OrderTokens {a0 : List ((List UInt8) × (Int))} {a1 : List (List UInt8)} (h0 : (qS (qP qB qI)) a0) (h1 : (qS qB) a1) (hw : w_TokenCountS a0 + w_StringS a1 ≤ 1048576) :
    ∃ r : List (List UInt8), M_spec_OrderTokens 1048577 a0 a1 = some r ∧ M_impl_OrderTokens 1048577 a0 a1 = some r ∧ w_StringS r ≤ 1048576 := by
  have k0 := w_len (xs := a0) (f := w_TokenCount) (by unfold w_TokenCountS at hw; omega)
  have k1 := w_len (xs := a1) (f := fun s => s.length) (by unfold w_StringS at hw; omega)
  refine ⟨_, specOrder_t (Nat.le_refl _) k0.1 k1.1, implOrder_t (Nat.le_refl _) k0.1 k1.1, ?_⟩
  unfold w_StringS at hw ⊢
  rw [w_sub (List.mergeSort_perm a1 _)]
  omega
theorem hs_PrefixTokens {a0 : List ((List UInt8) × (Int))} {a1 : List (List UInt8)} {a2 : Int} (h0 : (qS (qP qB qI)) a0) (h1 : (qS qB) a1) (h2 : qI a2) (hw : w_TokenCountS a0 + w_StringS a1 ≤ 1048576) :
    ∃ r : List (List UInt8), M_spec_PrefixTokens 1048577 a0 a1 a2 = some r ∧ M_impl_PrefixTokens 1048577 a0 a1 a2 = some r ∧ w_StringS r ≤ 1048576 := by
  have k0 := w_len (xs := a0) (f := w_TokenCount) (by unfold w_TokenCountS at hw; omega)
  have k1 := w_len (xs := a1) (f := fun s => s.length) (by unfold w_StringS at hw; omega)
  refine ⟨_, specPreT_t (Nat.le_refl _) k0.1 k1.1 k1.2, implPreT_t (Nat.le_refl _) k0.1 k1.1 k1.2, ?_⟩
  unfold preT
  cases ((!(tokB a1)) || decide (preL a1.length a2 < 0))
  · rw [cond_false]
    unfold w_StringS at hw ⊢
    refine Nat.le_trans (w_take _ _) ?_
    unfold ordL
    rw [w_sub (List.mergeSort_perm a1 _)]
    omega
  · exact Nat.zero_le _
end Go.Proofs.Ytfcocbokgfmjfaa
