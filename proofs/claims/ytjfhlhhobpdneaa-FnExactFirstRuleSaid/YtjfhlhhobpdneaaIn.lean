/- Contracts: l1In, within: lo ≤ x ≤ hi. -/
import Derived.Test.YtjfhlhhobpdneaaProg
import Derived.Test.YtjfhlhhobpdneaaBase
namespace Go.Proofs.Ytjfhlhhobpdneaa
open Go.RowKit

theorem sIn_any (x lo hi : Int) (w : World) : Calls Try.prog 70 #[.int .i64 x, .int .i64 lo, .int .i64 hi] w fun e w' => e = .returned (.bool (inB x lo hi)) ∧ w = w' := by
  by_cases h : lo ≤ x <;> by_cases h' : x ≤ hi
  all_goals
    go_enter Try.func70, Try.ntmps70
    go_wp2
    go_ret
    exact ⟨ret_bool (by simp [inB, h, h']), rfl⟩
theorem within_any (x lo hi : Int) (w : World) : Calls Try.prog 73 #[.int .i64 x, .int .i64 lo, .int .i64 hi] w fun e w' => e = .returned (.bool (inB x lo hi)) ∧ w = w' := by
  by_cases h : lo ≤ x <;> by_cases h' : x ≤ hi
  all_goals
    go_enter Try.func73, Try.ntmps73
    go_wp2
    go_ret
    exact ⟨ret_bool (by simp [inB, h, h']), rfl⟩
end Go.Proofs.Ytjfhlhhobpdneaa
