/- Contracts of the functions that compute with numbers alone: LengthFilter, EditLimit, MinCommonGrams, PrefixLength and what they call. -/
import Derived.Test.YtdjagnlmcponaaaProg
import Derived.Test.YtdjagnlmcponaaaBase
namespace Go.Proofs.Ytdjagnlmcponaaa
open Go.RowKit

theorem sIn_any (x lo hi : Int) (w : World) : Calls Try.prog 49 #[.int .i64 x, .int .i64 lo, .int .i64 hi] w fun e w' => e = .returned (.bool (inB x lo hi)) ∧ w = w' := by
  by_cases h : lo ≤ x <;> by_cases h' : x ≤ hi
  all_goals
    go_enter Try.func49, Try.ntmps49
    go_wp2
    go_ret
    exact ⟨ret_bool (by simp [inB, h, h']), rfl⟩
theorem within_any (x lo hi : Int) (w : World) : Calls Try.prog 50 #[.int .i64 x, .int .i64 lo, .int .i64 hi] w fun e w' => e = .returned (.bool (inB x lo hi)) ∧ w = w' := by
  by_cases h : lo ≤ x <;> by_cases h' : x ≤ hi
  all_goals
    go_enter Try.func50, Try.ntmps50
    go_wp2
    go_ret
    exact ⟨ret_bool (by simp [inB, h, h']), rfl⟩

theorem sLengthFilter_any (a b : ByteArray) (l : Int) (ha : a.size ≤ 1048576) (hb : b.size ≤ 1048576) (w : World) :
    Calls Try.prog 14 #[.string a, .string b, .int .i64 l] w fun e w' => e = .returned (.bool (decide (((max a.size b.size - min a.size b.size : Nat) : Int) ≤ l))) ∧ w = w' := by
  by_cases h : a.size < b.size <;> by_cases h' : b.size < a.size
  all_goals first
    | (exfalso; omega)
    | (go_enter Try.func14, Try.ntmps14
       go_wp2
       go_ret
       exact ⟨ret_bool (by congr 1; simp only [eq_iff_iff]; omega), rfl⟩)
theorem LengthFilter_any (a b : ByteArray) (l : Int) (ha : a.size ≤ 1048576) (hb : b.size ≤ 1048576) (w : World) :
    Calls Try.prog 15 #[.string a, .string b, .int .i64 l] w fun e w' => e = .returned (.bool (decide (((max a.size b.size - min a.size b.size : Nat) : Int) ≤ l))) ∧ w = w' := by
  by_cases h : a.size < b.size <;> by_cases h' : b.size < a.size
  all_goals first
    | (exfalso; omega)
    | (go_enter Try.func15, Try.ntmps15
       go_wp2
       go_ret
       exact ⟨ret_bool (by congr 1; simp only [eq_iff_iff]; omega), rfl⟩)
end Go.Proofs.Ytdjagnlmcponaaa
