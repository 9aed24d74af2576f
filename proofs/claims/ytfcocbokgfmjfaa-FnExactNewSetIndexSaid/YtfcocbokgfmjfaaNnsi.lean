/- Plain: what the law NewSetIndex asks. No statement of the seat is proved here. -/
import Derived.Test.YtfcocbokgfmjfaaNsi
import Derived.Test.YtfcocbokgfmjfaaNh
namespace Go.Proofs.Ytfcocbokgfmjfaa
open Go.RowKit
set_option linter.unusedVariables false
set_option linter.unusedSimpArgs false

theorem w_len {α : Type} {f : α → Nat} {xs : List α} (h : wL f xs ≤ 1048576) : xs.length ≤ 1048576 ∧ ∀ x ∈ xs, f x ≤ 1048576 := by
  unfold wL at h
  exact ⟨by omega, fun x hx => Nat.le_trans (sz_mem hx) (by omega)⟩
abbrev TIdx := Int × List (List UInt8 × Int) × List (Int × List (List UInt8))
def newI (l : List (List UInt8 × Int)) (t : Int) : TIdx × Bool := bif tabB l && inI t 1 1000 then ((t, l, []), true) else ((0, [], []), false)
theorem specNew_t {fu : Nat} {l : List (List UInt8 × Int)} {t : Int} (hf : 1048577 ≤ fu) (hl : l.length ≤ 1048576) : M_spec_NewSetIndex fu l t = some (newI l t) := by
  unfold M_spec_NewSetIndex newI
  rw [specTab_t hf hl, cl_true, l1In_t, List.nil_append, ck_t (lenOK_t (by simp; omega))]
  simp only [cl_if, bd_eq]
  cases tabB l <;> cases inI t 1 1000 <;> rfl
theorem implNew_t {fu : Nat} {l : List (List UInt8 × Int)} {t : Int} (hf : 1048577 ≤ fu) (hl : l.length ≤ 1048576) : M_impl_NewSetIndex fu l t = some (newI l t) := by
  unfold M_impl_NewSetIndex M_slices_Clone_impl_TokenCount_impl_TokenCount newI
  rw [List.nil_append, ck_t (lenOK_t (by simp; omega)), cl_true, implIdx_t hf (x := (t, l, [])) ⟨hl, Nat.zero_le _, fun s hs => by cases hs⟩, cl_true]
  have e : idxB (t, l, []) = (tabB l && inI t 1 1000) := by
    unfold idxB
    cases tabB l <;> cases inI t 1 1000 <;> rfl
  rw [e]
  cases tabB l && inI t 1 1000 <;> rfl
theorem hs_NewSetIndex {a0 : List (List UInt8 × Int)} {a1 : Int} (h0 : (qS (qP qB qI)) a0) (h1 : qI a1) (hw : w_TokenCountS a0 ≤ 1048576) : ∃ r : (Int × List (List UInt8 × Int) × List (Int × List (List UInt8))) × Bool, M_spec_NewSetIndex 1048577 a0 a1 = some r ∧ M_impl_NewSetIndex 1048577 a0 a1 = some r ∧ w_SetIndex r.1 ≤ 1048576 := by
  have hl : a0.length ≤ 1048576 := (w_len hw).1
  refine ⟨_, specNew_t (Nat.le_refl _) hl, implNew_t (Nat.le_refl _) hl, ?_⟩
  unfold newI w_SetIndex
  cases tabB a0 && inI a1 1 1000
  · show w_TokenCountS [] + w_IndexedSetS [] ≤ 1048576
    decide
  · rw [cond_true]
    show w_TokenCountS a0 + w_IndexedSetS [] ≤ 1048576
    have : w_IndexedSetS [] = 0 := rfl
    omega
end Go.Proofs.Ytfcocbokgfmjfaa

