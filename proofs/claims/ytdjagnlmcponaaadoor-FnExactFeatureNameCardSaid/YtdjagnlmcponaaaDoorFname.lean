/- Contracts: FeatureName (both), over the table featureNames, which holds the six names. -/
import Derived.Test.YtdjagnlmcponaaaDoorProg
import Derived.Test.YtdjagnlmcponaaaDoorMem
namespace Go.Proofs.YtdjagnlmcponaaaDoor
open Go.RowKit

theorem sIn_door (x lo hi : Int) (w : World) : Calls Tryd.prog 6 #[.int .i64 x, .int .i64 lo, .int .i64 hi] w fun e w' => e = .returned (.bool (inB x lo hi)) ∧ w = w' := by
  by_cases h : lo ≤ x <;> by_cases h' : x ≤ hi
  all_goals
    go_enter Tryd.func6, Tryd.ntmps6
    go_wp2
    go_ret
    exact ⟨ret_bool (by simp [inB, h, h']), rfl⟩
theorem within_door (x lo hi : Int) (w : World) : Calls Tryd.prog 7 #[.int .i64 x, .int .i64 lo, .int .i64 hi] w fun e w' => e = .returned (.bool (inB x lo hi)) ∧ w = w' := by
  by_cases h : lo ≤ x <;> by_cases h' : x ≤ hi
  all_goals
    go_enter Tryd.func7, Tryd.ntmps7
    go_wp2
    go_ret
    exact ⟨ret_bool (by simp [inB, h, h']), rfl⟩

/-- the names of the features, byte by byte -/
def featS : Nat → ByteArray
  | 0 => ⟨#[110, 97, 109, 101]⟩
  | 1 => ⟨#[116, 111, 107, 101, 110, 115]⟩
  | 2 => ⟨#[115, 111, 117, 110, 100]⟩
  | 3 => ⟨#[99, 105, 116, 121]⟩
  | 4 => ⟨#[121, 101, 97, 114]⟩
  | 5 => ⟨#[112, 104, 111, 110, 101]⟩
  | _ => ⟨#[]⟩
def featN (n : Int) : ByteArray := if inB n 0 5 then featS n.toNat else ⟨#[]⟩
/-- the table's cells -/
def Tab (W : World) : Prop := ∀ i : Nat, i < 6 → W.cell? ⟨0, i, none⟩ = some (.string (featS i))
theorem cell_lt' {w : World} {a : Addr} {v : Value} (h : w.cell? a = some v) : a.block < w.heap.size := by
  rcases Nat.lt_or_ge a.block w.heap.size with hlt | hge
  · exact hlt
  · unfold World.cell? at h
    rw [Array.getElem?_eq_none hge] at h
    cases h
theorem Tab.lt {W : World} (h : Tab W) : 0 < W.heap.size := cell_lt' (h 0 (by omega))
theorem Tab.below {W W' : World} (h : Tab W) (hb : Below W.heap.size W W') : Tab W' := fun i hi => (hb.cell (p := ⟨0, i, none⟩) h.lt).trans (h i hi)
theorem six {n : Int} (h : inB n 0 5 = true) : n = 0 ∨ n = 1 ∨ n = 2 ∨ n = 3 ∨ n = 4 ∨ n = 5 := by
  have := inB_true.1 h
  omega
theorem FeatureName_any (n : Int) (w : World) (ht : Tab w) : Calls Tryd.prog 5 #[.int .i64 n] w fun e w' => e = .returned (.string (featN n)) ∧ w = w' := by
  cases h : inB n 0 5
  · have HV : Hid (featN n = ⟨#[]⟩) := by unfold Hid featN; rw [h]; rfl
    rw [HV.out]
    go_enter Tryd.func5, Tryd.ntmps5
    go_wp2_with (go_at_call 7; refine (within_door _ _ _ _).mono ?_; rintro e w' ⟨rfl, rfl⟩)
    go_ret
    exact ⟨rfl, rfl⟩
  · have t0 := ht 0 (by omega)
    have t1 := ht 1 (by omega)
    have t2 := ht 2 (by omega)
    have t3 := ht 3 (by omega)
    have t4 := ht 4 (by omega)
    have t5 := ht 5 (by omega)
    clear ht
    have h' := h
    rcases six h' with rfl | rfl | rfl | rfl | rfl | rfl
    all_goals
      clear h'
      go_enter Tryd.func5, Tryd.ntmps5
      go_wp2_with (go_at_call 7; refine (within_door _ _ _ _).mono ?_; rintro e w' ⟨rfl, rfl⟩)
      go_ret
      exact ⟨rfl, rfl⟩
theorem sFeatureName_any (n : Int) (w : World) : Calls Tryd.prog 4 #[.int .i64 n] w fun e w' => e = .returned (.string (featN n)) ∧ Below w.heap.size w w' := by
  cases h : inB n 0 5
  · have HV : Hid (featN n = ⟨#[]⟩) := by unfold Hid featN; rw [h]; rfl
    rw [HV.out]
    go_enter Tryd.func4, Tryd.ntmps4
    go_wp2_with (go_at_call 6; refine (sIn_door _ _ _ _).mono ?_; rintro e w' ⟨rfl, rfl⟩)
    go_ret
    exact ⟨rfl, Below.refl _ _⟩
  · have h' := h
    rcases six h' with rfl | rfl | rfl | rfl | rfl | rfl
    all_goals
      clear h'
      go_enter Tryd.func4, Tryd.ntmps4
      go_wp2_with (go_at_call 6; refine (sIn_door _ _ _ _).mono ?_; rintro e w' ⟨rfl, rfl⟩)
      go_ret
      exact ⟨rfl, (Below.refl _ _).alloc (Nat.le_refl _) _⟩
end Go.Proofs.YtdjagnlmcponaaaDoor
