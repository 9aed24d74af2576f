/- Contracts: toTest, TestHolds (both). -/
import Derived.Test.YtdjagnlmcponaaaFeat
namespace Go.Proofs.Ytdjagnlmcponaaa
open Go.RowKit

theorem isFeature_any (x : Int) (w : World) : Calls Try.prog 56 #[.int .i64 x] w fun e w' => e = .returned (.bool (inB x 0 5)) ∧ w = w' := by
  go_enter Try.func56, Try.ntmps56
  go_wp2_with (go_at_call 50; refine (within_any _ _ _ _).mono ?_; rintro e w' ⟨rfl, rfl⟩)
  go_ret
  exact ⟨rfl, rfl⟩
theorem toTest_any (f t : Int) (b : Bool) (w : World) : Calls Try.prog 27 #[.agg #[.int .i64 f, .int .i64 t, .bool b]] w fun e w' => e = .returned (.agg #[.int .i64 f, .int .i64 t, .bool b]) ∧ Below w.heap.size w w' := by
  go_enter Try.func27, Try.ntmps27
  go_wp2
  refine bodyPost_ret (v := .agg #[.int .i64 f, .int .i64 t, .bool b]) (by simp [results, Try.results27, go_sem]) rfl ⟨rfl, ?_⟩
  repeat (first | exact Below.refl _ _ | refine Below.alloc ?_ (by first | omega | (simp; done) | (simp; omega)) _ | refine Below.setCell ?_ (by first | omega | (simp; done) | (simp; omega)) _ | refine below_drewN ?_ _)

def tstB (f t : Int) (b : Bool) (zs : List Int) : Bool := isFV zs && inB f 0 5 && (decide (nth zs f.toNat < t) == b)
set_option maxHeartbeats 600000 in
theorem TestHolds_any (f t : Int) (b : Bool) (A : Option Addr) (n c : Nat) (zs : List Int) (w : World) (hr : Rd w w.heap.size 1 A n (ci zs)) (hn : n ≤ 1048576) :
    Calls Try.prog 28 #[.agg #[.int .i64 f, .int .i64 t, .bool b], .slice A n c] w fun e w' => e = .returned (.bool (tstB f t b zs)) ∧ Below w.heap.size w w' := by
  have HL := Lib.hid hr.ci_len
  have HR0 := Lib.hid hr
  have HR : Rd (w.alloc (.cells #[.int .i64 f, .int .i64 t, .bool b] 36)) (w.alloc (.cells #[.int .i64 f, .int .i64 t, .bool b] 36)).heap.size 1 A n (ci zs) :=
    (hr.below ((Below.refl _ _).alloc (Nat.le_refl _) _)).more (by simp)
  clear hr
  cases h1 : isFV zs
  · have HV : Hid (tstB f t b zs = false) := by unfold tstB Hid; rw [h1]; rfl
    have H1 := Lib.hid h1
    clear h1
    have hc : ∀ W : World, Rd W W.heap.size 1 A n (ci zs) → Calls Try.prog 24 #[.slice A n c] W fun e w' => e = .returned (.bool false) ∧ W = w' := fun W hW => H1.out ▸ IsFeatureVector_any A n c zs W hW hn
    have HC := Lib.hid hc
    clear hc
    go_enter Try.func28, Try.ntmps28
    go_wp2_with fail
    go_quiet ((go_at_call 24; exact quiet_l (HC.out _ (HR.drewN _))))
    go_wp2
    go_ret
    exact ⟨ret_bool HV.out.symm, below_drewN ((Below.refl _ _).alloc (Nat.le_refl _) _) _⟩
  · have hlen := isFV_len h1
    have H1 := Lib.hid h1
    have hc : ∀ W : World, Rd W W.heap.size 1 A n (ci zs) → Calls Try.prog 24 #[.slice A n c] W fun e w' => e = .returned (.bool true) ∧ W = w' := fun W hW => H1.out ▸ IsFeatureVector_any A n c zs W hW hn
    have HC := Lib.hid hc
    have hn6 : n = 6 := by have := HL.out; omega
    clear hc hlen h1
    subst hn6
    cases h2 : inB f 0 5
    · have HV : Hid (tstB f t b zs = false) := by unfold tstB Hid; rw [H1.out, h2]; rfl
      go_enter Try.func28, Try.ntmps28
      go_wp2_with fail
      go_quiet ((first | (go_at_call 24; exact quiet_l (HC.out _ (HR.drewN _))) | (go_at_call 56; exact quiet_l (isFeature_any _ _))))
      go_wp2
      go_ret
      exact ⟨ret_bool HV.out.symm, below_drewN ((Below.refl _ _).alloc (Nat.le_refl _) _) _⟩
    · obtain ⟨f0, f1⟩ := inB_true.1 h2
      obtain ⟨k, rfl⟩ := Int.eq_ofNat_of_zero_le f0
      obtain ⟨bb, off, rfl, hbb, hcell⟩ := HR0.out.int_at (k := k) (by omega)
      have HV : Hid (tstB (k : Int) t b zs = (decide (nth zs k < t) == b)) := by unfold tstB Hid; rw [H1.out, h2, Int.toNat_natCast]; rfl
      generalize nth zs k = x at hcell HV
      have hk6 : (k : Int) < 6 := by omega
      by_cases hx : x < t
      · rw [decide_eq_true hx] at HV
        cases b
        all_goals
          go_enter Try.func28, Try.ntmps28
          go_wp2_with fail
          go_quiet ((first | (go_at_call 24; exact quiet_l (HC.out _ (HR.drewN _))) | (go_at_call 56; exact quiet_l (isFeature_any _ _))))
          go_wp2
          go_ret
          exact ⟨ret_bool HV.out.symm, below_drewN ((Below.refl _ _).alloc (Nat.le_refl _) _) _⟩
      · rw [decide_eq_false hx] at HV
        have hx2 : decide (x < t) = false := decide_eq_false hx
        have hx3 : decide (t ≤ x) = true := decide_eq_true (by omega)
        cases b
        all_goals
          go_enter Try.func28, Try.ntmps28
          go_wp2_with fail
          go_quiet ((first | (go_at_call 24; exact quiet_l (HC.out _ (HR.drewN _))) | (go_at_call 56; exact quiet_l (isFeature_any _ _))))
          go_wp2
          go_ret
          exact ⟨ret_bool HV.out.symm, below_drewN ((Below.refl _ _).alloc (Nat.le_refl _) _) _⟩
set_option maxHeartbeats 600000 in
theorem sTestHolds_any (f t : Int) (b : Bool) (A : Option Addr) (n c : Nat) (zs : List Int) (w : World) (hr : Rd w w.heap.size 1 A n (ci zs)) (hn : n ≤ 1048576) :
    Calls Try.prog 26 #[.agg #[.int .i64 f, .int .i64 t, .bool b], .slice A n c] w fun e w' => e = .returned (.bool (tstB f t b zs)) ∧ Below w.heap.size w w' := by
  have HL := Lib.hid hr.ci_len
  have HR0 := Lib.hid hr
  have HR : Rd (w.alloc (.cells #[.int .i64 f, .int .i64 t, .bool b] 36)) (w.alloc (.cells #[.int .i64 f, .int .i64 t, .bool b] 36)).heap.size 1 A n (ci zs) :=
    (hr.below ((Below.refl _ _).alloc (Nat.le_refl _) _)).more (by simp)
  clear hr
  cases h1 : isFV zs
  · have HV : Hid (tstB f t b zs = false) := by unfold tstB Hid; rw [h1]; rfl
    have H1 := Lib.hid h1
    clear h1
    have hc : ∀ W : World, Rd W W.heap.size 1 A n (ci zs) → Calls Try.prog 22 #[.slice A n c] W fun e w' => e = .returned (.bool false) ∧ W = w' := fun W hW => H1.out ▸ sIsFeatureVector_any A n c zs W hW hn
    have HC := Lib.hid hc
    clear hc
    go_enter Try.func26, Try.ntmps26
    go_wp2_with fail
    go_quiet ((go_at_call 22; exact quiet_l (HC.out _ (HR.drewN _))))
    go_wp2
    go_ret
    exact ⟨ret_bool HV.out.symm, below_drewN ((Below.refl _ _).alloc (Nat.le_refl _) _) _⟩
  · have hlen := isFV_len h1
    have H1 := Lib.hid h1
    have hc : ∀ W : World, Rd W W.heap.size 1 A n (ci zs) → Calls Try.prog 22 #[.slice A n c] W fun e w' => e = .returned (.bool true) ∧ W = w' := fun W hW => H1.out ▸ sIsFeatureVector_any A n c zs W hW hn
    have HC := Lib.hid hc
    have hn6 : n = 6 := by have := HL.out; omega
    clear hc hlen h1
    subst hn6
    cases h2 : inB f 0 5
    · have HV : Hid (tstB f t b zs = false) := by unfold tstB Hid; rw [H1.out, h2]; rfl
      go_enter Try.func26, Try.ntmps26
      go_wp2_with fail
      go_quiet ((first | (go_at_call 22; exact quiet_l (HC.out _ (HR.drewN _))) | (go_at_call 49; exact quiet_l (sIn_any _ _ _ _))))
      go_wp2
      go_ret
      exact ⟨ret_bool HV.out.symm, below_drewN ((Below.refl _ _).alloc (Nat.le_refl _) _) _⟩
    · obtain ⟨f0, f1⟩ := inB_true.1 h2
      obtain ⟨k, rfl⟩ := Int.eq_ofNat_of_zero_le f0
      obtain ⟨bb, off, rfl, hbb, hcell⟩ := HR0.out.int_at (k := k) (by omega)
      have HV : Hid (tstB (k : Int) t b zs = (decide (nth zs k < t) == b)) := by unfold tstB Hid; rw [H1.out, h2, Int.toNat_natCast]; rfl
      generalize nth zs k = x at hcell HV
      have hk6 : (k : Int) < 6 := by omega
      by_cases hx : x < t
      · rw [decide_eq_true hx] at HV
        cases b
        all_goals
          go_enter Try.func26, Try.ntmps26
          go_wp2_with fail
          go_quiet ((first | (go_at_call 22; exact quiet_l (HC.out _ (HR.drewN _))) | (go_at_call 49; exact quiet_l (sIn_any _ _ _ _))))
          go_wp2
          go_ret
          exact ⟨ret_bool (by rw [HV.out]; first | rfl | (simp; omega)), below_drewN ((Below.refl _ _).alloc (Nat.le_refl _) _) _⟩
      · rw [decide_eq_false hx] at HV
        have hx2 : decide (x < t) = false := decide_eq_false hx
        have hx3 : decide (t ≤ x) = true := decide_eq_true (by omega)
        cases b
        all_goals
          go_enter Try.func26, Try.ntmps26
          go_wp2_with fail
          go_quiet ((first | (go_at_call 22; exact quiet_l (HC.out _ (HR.drewN _))) | (go_at_call 49; exact quiet_l (sIn_any _ _ _ _))))
          go_wp2
          go_ret
          exact ⟨ret_bool (by rw [HV.out]; first | rfl | (simp; omega)), below_drewN ((Below.refl _ _).alloc (Nat.le_refl _) _) _⟩
end Go.Proofs.Ytdjagnlmcponaaa
