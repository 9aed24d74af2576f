/- More operations for printed proofs: parts of slices and strings, bits, comparisons of strings. No statement of the seat is proved here. -/
import Derived.Test.YtmkgocdgkdglnaaDw
namespace Go.Proofs.Ytmkgocdgkdglnaa
open Go.RowKit
set_option linter.unusedVariables false

def subR (lo hi : Int) (n : Nat) : Bool := decide (0 ≤ lo) && decide (lo ≤ hi) && decide (hi ≤ n)
def subL {α : Type} (xs : List α) (lo hi : Int) : List α := (xs.drop lo.toNat).take (hi.toNat - lo.toNat)
theorem subR_iff {lo hi : Int} {n : Nat} : subR lo hi n = true ↔ 0 ≤ lo ∧ lo ≤ hi ∧ hi ≤ n := by simp [subR, and_assoc]
theorem subL_length {α : Type} {xs : List α} {lo hi : Int} (h : subR lo hi xs.length = true) : (subL xs lo hi).length = hi.toNat - lo.toNat := by
  obtain ⟨h1, h2, h3⟩ := subR_iff.1 h
  unfold subL
  rw [List.length_take, List.length_drop]
  omega
theorem subL_get {α : Type} {xs : List α} {lo hi : Int} {i : Nat} {x : α} (h : (subL xs lo hi)[i]? = some x) : xs[lo.toNat + i]? = some x := by
  unfold subL at h
  rw [List.getElem?_take] at h
  split at h
  · rwa [List.getElem?_drop] at h
  · cases h

theorem sub_ne {m n c : Nat} {lo hi : Int} (h1 : 0 ≤ lo) (h3 : hi ≤ (m : Int)) (hl : m = n) (hnc : n ≤ c) (hn : 0 < hi.toNat - lo.toNat) : c ≠ lo.toNat := by omega
section
variable {α : Type} {E : Enc α} {P : Program} {R : Reg} {A : Av} {w : World} {d : Option Nat} {t T : TypeId} {p : String} {af : Array Edge} {g : Option (Nat × Bool)} {x : Operand} {xs : List α}
theorem sub_rep {ad : Option Addr} {n c : Nat} {lo hi : Int} (hl : xs.length = n) (hnc : n ≤ c) (hcm : c ≤ maxLen)
    (h4 : 0 < n → ∃ b off, ad = some ⟨b, off, none⟩ ∧ b < w.heap.size ∧ ∀ i x, xs[i]? = some x → QAt E A w b (off + i * E.size) x) (hr : subR lo hi xs.length = true) :
    Rep (eSl E) A w (.slice (if c = lo.toNat then ad else ad.map (·.add (lo.toNat * E.size))) (hi.toNat - lo.toNat) (c - lo.toNat)) (subL xs lo hi) := by
  obtain ⟨h1, h2, h3⟩ := subR_iff.1 hr
  refine ⟨_, rfl, _, _, _, rfl, subL_length hr, by omega, by omega, fun hn => ?_⟩
  obtain ⟨b, off, rfl, hb, hall⟩ := h4 (by omega)
  have hne : c ≠ lo.toNat := sub_ne h1 h3 hl hnc hn
  rw [if_neg hne]
  refine ⟨b, off + lo.toNat * E.size, by rw [Option.map_some, addr_add], hb, fun i y hy => ?_⟩
  have := hall _ y (subL_get hy)
  rwa [Nat.add_mul, ← Nat.add_assoc] at this
end
end Go.Proofs.Ytmkgocdgkdglnaa
