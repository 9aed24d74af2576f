/- Plain: prefixes of two sets that meet a threshold share a token. No statement of the seat is proved here. -/
import Derived.Test.YtkebpojbbfnehaaGreatEtf
import Derived.Test.YtkebpojbbfnehaaGreatEmj
namespace Go.Proofs.YtkebpojbbfnehaaGreat
open Go.RowKit
set_option linter.unusedVariables false
set_option linter.unusedSimpArgs false
theorem ordL_sorted {tb : List (List UInt8 × Int)} {l : List (List UInt8)} (hl : SortedS bLt l) : SortedS (tlt tb) (ordL tb l) := by
  have h1 : SortedW (tlt tb) (ordL tb l) := sort_sorted (sto_tlt tb) l
  have h2 : (ordL tb l).Nodup := (List.mergeSort_perm l _).nodup_iff.2 (hl.nodup sto_bLt)
  refine (h1.and h2).imp fun {a b} h => ?_
  cases hb : tlt tb a b
  · exact absurd ((sto_tlt tb).tri _ _ hb h.1) h.2
  · rfl
theorem ordL_mem {tb : List (List UInt8 × Int)} {l : List (List UInt8)} {x : List UInt8} : x ∈ ordL tb l ↔ x ∈ l := List.mem_mergeSort
theorem ordL_length {tb : List (List UInt8 × Int)} {l : List (List UInt8)} : (ordL tb l).length = l.length := List.length_mergeSort _
/-- where the first element with p stands -/
theorem filt_head {α : Type} {p : α → Bool} {m : α} {ms : List α} : ∀ {l : List α}, l.filter p = m :: ms → m ∈ l.take (l.length - ms.length)
  | [], h => (by cases h)
  | x :: l, h => by
    cases hx : p x
    · rw [List.filter_cons_of_neg (by simp [hx])] at h
      have h1 := filt_head h
      have h2 : (m :: ms).length ≤ l.length := h ▸ List.length_filter_le p l
      rw [List.length_cons] at h2
      rw [List.length_cons, show l.length + 1 - ms.length = (l.length - ms.length) + 1 by omega, List.take_succ_cons]
      exact List.mem_cons_of_mem _ h1
    · rw [List.filter_cons_of_pos hx] at h
      injection h with h1 h2
      subst h1
      have h3 : ms.length ≤ l.length := h2 ▸ List.length_filter_le p l
      rw [List.length_cons, show l.length + 1 - ms.length = (l.length - ms.length) + 1 by omega, List.take_succ_cons]
      exact List.mem_cons_self
theorem share_of {tb : List (List UInt8 × Int)} {a b : List (List UInt8)} {i j : Nat} (ha : SortedS bLt a) (hb : SortedS bLt b) (hc : 0 < (interB a b).length) (hi : a.length + 1 ≤ i + (interB a b).length) (hj : b.length + 1 ≤ j + (interB a b).length) :
    ∃ m, m ∈ (ordL tb a).take i ∧ m ∈ (ordL tb b).take j := by
  have sa := ordL_sorted (tb := tb) ha
  have sb := ordL_sorted (tb := tb) hb
  have mem : ∀ {l : List (List UInt8)} {x : List UInt8}, (l.any fun y => y == x) = true ↔ x ∈ l := fun {l x} => by
    rw [List.any_eq_true]
    constructor
    · rintro ⟨y, h1, h2⟩
      obtain rfl : y = x := by simpa using h2
      exact h1
    · exact fun h => ⟨x, h, beq_self_eq_true x⟩
  have e : ((ordL tb a).filter fun x => b.any fun y => y == x) = ((ordL tb b).filter fun x => a.any fun y => y == x) := by
    refine sortedS_one (sto_tlt tb) (sa.sublist List.filter_sublist) (sb.sublist List.filter_sublist) fun x => ?_
    rw [List.mem_filter, List.mem_filter, mem, mem, ordL_mem, ordL_mem]
    exact And.comm
  have el : ((ordL tb a).filter fun x => b.any fun y => y == x).length = (interB a b).length := ((List.mergeSort_perm a _).filter _).length_eq
  cases h : (ordL tb a).filter fun x => b.any fun y => y == x with
  | nil => rw [h] at el; rw [← el] at hc; exact absurd hc (Nat.lt_irrefl 0)
  | cons m ms =>
    have h1 := filt_head h
    have h2 := filt_head (e ▸ h)
    rw [h, List.length_cons] at el
    rw [ordL_length] at h1 h2
    exact ⟨m, (List.take_subset_take_left _ (by omega)) h1, (List.take_subset_take_left _ (by omega)) h2⟩
end Go.Proofs.YtkebpojbbfnehaaGreat

