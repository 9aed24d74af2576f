/- Contract: isThreshold. -/
import Derived.Test.YtjfhlhhobpdneaaIn
namespace Go.Proofs.Ytjfhlhhobpdneaa
open Go.RowKit

theorem isThreshold_any (x : Int) (w : World) : Calls Try.prog 75 #[.int .i64 x] w fun e w' => e = .returned (.bool (inB x 1 1000)) ∧ w = w' := by
  go_enter Try.func75, Try.ntmps75
  go_wp2_with (go_at_call 73; refine (within_any _ _ _ _).mono ?_; rintro e w' ⟨rfl, rfl⟩)
  go_ret
  exact ⟨rfl, rfl⟩
end Go.Proofs.Ytjfhlhhobpdneaa
