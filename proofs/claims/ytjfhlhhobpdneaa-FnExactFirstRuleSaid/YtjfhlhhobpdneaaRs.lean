/- Rule sets as law arguments: the size's bounds, toRuleSet's result as a list of rules. -/
import Derived.Test.YtjfhlhhobpdneaaRuleEq
namespace Go.Proofs.Ytjfhlhhobpdneaa
open Go.RowKit

theorem le_sum : ∀ (xs : List Nat) (x : Nat), x ∈ xs → x ≤ xs.sum
  | [], _, h => by cases h
  | y :: ys, x, h => by
    rw [List.sum_cons]
    rcases List.mem_cons.1 h with rfl | h
    · omega
    · have := le_sum ys x h
      omega
theorem le_lenTo {α : Type} {ls : List (List α)} {l : List α} (h : l ∈ ls) : l.length ≤ lenTo ls ls.length := by
  unfold lenTo
  rw [List.take_length]
  exact le_sum _ _ (List.mem_map.2 ⟨l, h, rfl⟩)
theorem sz_bounds {ls : List (List TeD)} {n : Nat} {r : Int} (hl : ls.length = n) (h : r + n + lenTo ls n = 1048576) (h0 : 0 ≤ r) : n ≤ 1048576 ∧ ∀ l ∈ ls, l.length ≤ 1048576 := by
  refine ⟨by omega, fun l hm => ?_⟩
  have := le_lenTo hm
  rw [hl] at this
  omega
theorem toRuleSet_rls (A : Option Addr) (n c : Nat) (ls : List (List TeD)) (w : World) (hr : Rls w w.heap.size A n ls) (hn : n ≤ 1048576) (hs : ∀ l ∈ ls, l.length ≤ 1048576) :
    Calls Try.prog 34 #[.agg #[.slice A n c]] w fun e w' => ∃ g, e = .returned (.agg #[.slice (some ⟨g, 0, none⟩) n n]) ∧ Rls w' w'.heap.size (some ⟨g, 0, none⟩) n ls ∧ w.heap.size ≤ g ∧ Below w.heap.size w w' := by
  have hl := hr.len
  refine (toRuleSet_any A n c ls w hr hn hs).mono ?_
  rintro e w' ⟨g, rfl, ⟨cs, hB, hc, hd⟩, hg, hb⟩
  exact ⟨g, rfl, hd.nst hB hc hl, hg, hb⟩
end Go.Proofs.Ytjfhlhhobpdneaa
