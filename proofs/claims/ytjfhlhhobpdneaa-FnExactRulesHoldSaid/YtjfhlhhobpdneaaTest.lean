/- Contracts: toTest, TestHolds (both). -/
import Derived.Test.YtjfhlhhobpdneaaFeat
import Derived.Test.YtjfhlhhobpdneaaTe
namespace Go.Proofs.Ytjfhlhhobpdneaa
open Go.RowKit

theorem isFeature_any (x : Int) (w : World) : Calls Try.prog 74 #[.int .i64 x] w fun e w' => e = .returned (.bool (inB x 0 5)) ∧ w = w' := by
  go_enter Try.func74, Try.ntmps74
  go_wp2_with (go_at_call 73; refine (within_any _ _ _ _).mono ?_; rintro e w' ⟨rfl, rfl⟩)
  go_ret
  exact ⟨rfl, rfl⟩
def tstB (f t : Int) (b : Bool) (zs : List Int) : Bool := isFV zs && inB f 0 5 && (decide (nth zs f.toNat < t) == b)
set_option maxHeartbeats 600000 in
theorem TestHolds_any (f t : Int) (b : Bool) (A : Option Addr) (n c : Nat) (zs : List Int) (w : World) (hr : Rd w w.heap.size 1 A n (ci zs)) (hn : n ≤ 1048576) :
    Calls Try.prog 68 #[.agg #[.int .i64 f, .int .i64 t, .bool b], .slice A n c] w fun e w' => e = .returned (.bool (tstB f t b zs)) ∧ Below w.heap.size w w' := by
  have HL := Lib.hid hr.ci_len
  have HR0 := Lib.hid hr
  have HR : Rd (w.alloc (.cells #[.int .i64 f, .int .i64 t, .bool b] 85)) (w.alloc (.cells #[.int .i64 f, .int .i64 t, .bool b] 85)).heap.size 1 A n (ci zs) :=
    (hr.below ((Below.refl _ _).alloc (Nat.le_refl _) _)).more (by simp)
  clear hr
  cases h1 : isFV zs
  · have HV : Hid (tstB f t b zs = false) := by unfold tstB Hid; rw [h1]; rfl
    have H1 := Lib.hid h1
    clear h1
    have hc : ∀ W : World, Rd W W.heap.size 1 A n (ci zs) → Calls Try.prog 65 #[.slice A n c] W fun e w' => e = .returned (.bool false) ∧ W = w' := fun W hW => H1.out ▸ IsFeatureVector_any A n c zs W hW hn
    have HC := Lib.hid hc
    clear hc
    go_enter Try.func68, Try.ntmps68
    go_wp2_with fail
    go_quiet ((go_at_call 65; exact quiet_l (HC.out _ (HR.drewN _))))
    go_wp2
    go_ret
    exact ⟨ret_bool HV.out.symm, below_drewN ((Below.refl _ _).alloc (Nat.le_refl _) _) _⟩
  · have hlen := isFV_len h1
    have H1 := Lib.hid h1
    have hc : ∀ W : World, Rd W W.heap.size 1 A n (ci zs) → Calls Try.prog 65 #[.slice A n c] W fun e w' => e = .returned (.bool true) ∧ W = w' := fun W hW => H1.out ▸ IsFeatureVector_any A n c zs W hW hn
    have HC := Lib.hid hc
    have hn6 : n = 6 := by have := HL.out; omega
    clear hc hlen h1
    subst hn6
    cases h2 : inB f 0 5
    · have HV : Hid (tstB f t b zs = false) := by unfold tstB Hid; rw [H1.out, h2]; rfl
      go_enter Try.func68, Try.ntmps68
      go_wp2_with fail
      go_quiet ((first | (go_at_call 65; exact quiet_l (HC.out _ (HR.drewN _))) | (go_at_call 74; exact quiet_l (isFeature_any _ _))))
      go_wp2
      go_ret
      exact ⟨ret_bool HV.out.symm, below_drewN ((Below.refl _ _).alloc (Nat.le_refl _) _) _⟩
    · obtain ⟨f0, f1⟩ := inB_true.1 h2
      obtain ⟨k, rfl⟩ := Int.eq_ofNat_of_zero_le f0
      obtain ⟨bb, off, rfl, hbb, hcell⟩ := HR0.out.int_at (k := k) (by omega)
      have HV : Hid (tstB (k : Int) t b zs = (decide (nth zs k < t) == b)) := by unfold tstB Hid; rw [H1.out, h2, Int.toNat_natCast]; rfl
      generalize nth zs k = x at hcell HV
      have hk6 : (k : Int) < 6 := by omega
      by_cases hx : x < t
      · rw [decide_eq_true hx] at HV
        cases b
        all_goals
          go_enter Try.func68, Try.ntmps68
          go_wp2_with fail
          go_quiet ((first | (go_at_call 65; exact quiet_l (HC.out _ (HR.drewN _))) | (go_at_call 74; exact quiet_l (isFeature_any _ _))))
          go_wp2
          go_ret
          exact ⟨ret_bool HV.out.symm, below_drewN ((Below.refl _ _).alloc (Nat.le_refl _) _) _⟩
      · rw [decide_eq_false hx] at HV
        have hx2 : decide (x < t) = false := decide_eq_false hx
        have hx3 : decide (t ≤ x) = true := decide_eq_true (by omega)
        cases b
        all_goals
          go_enter Try.func68, Try.ntmps68
          go_wp2_with fail
          go_quiet ((first | (go_at_call 65; exact quiet_l (HC.out _ (HR.drewN _))) | (go_at_call 74; exact quiet_l (isFeature_any _ _))))
          go_wp2
          go_ret
          exact ⟨ret_bool HV.out.symm, below_drewN ((Below.refl _ _).alloc (Nat.le_refl _) _) _⟩
set_option maxHeartbeats 600000 in
theorem sTestHolds_any (f t : Int) (b : Bool) (A : Option Addr) (n c : Nat) (zs : List Int) (w : World) (hr : Rd w w.heap.size 1 A n (ci zs)) (hn : n ≤ 1048576) :
    Calls Try.prog 62 #[.agg #[.int .i64 f, .int .i64 t, .bool b], .slice A n c] w fun e w' => e = .returned (.bool (tstB f t b zs)) ∧ Below w.heap.size w w' := by
  have HL := Lib.hid hr.ci_len
  have HR0 := Lib.hid hr
  have HR : Rd (w.alloc (.cells #[.int .i64 f, .int .i64 t, .bool b] 85)) (w.alloc (.cells #[.int .i64 f, .int .i64 t, .bool b] 85)).heap.size 1 A n (ci zs) :=
    (hr.below ((Below.refl _ _).alloc (Nat.le_refl _) _)).more (by simp)
  clear hr
  cases h1 : isFV zs
  · have HV : Hid (tstB f t b zs = false) := by unfold tstB Hid; rw [h1]; rfl
    have H1 := Lib.hid h1
    clear h1
    have hc : ∀ W : World, Rd W W.heap.size 1 A n (ci zs) → Calls Try.prog 63 #[.slice A n c] W fun e w' => e = .returned (.bool false) ∧ W = w' := fun W hW => H1.out ▸ sIsFeatureVector_any A n c zs W hW hn
    have HC := Lib.hid hc
    clear hc
    go_enter Try.func62, Try.ntmps62
    go_wp2_with fail
    go_quiet ((go_at_call 63; exact quiet_l (HC.out _ (HR.drewN _))))
    go_wp2
    go_ret
    exact ⟨ret_bool HV.out.symm, below_drewN ((Below.refl _ _).alloc (Nat.le_refl _) _) _⟩
  · have hlen := isFV_len h1
    have H1 := Lib.hid h1
    have hc : ∀ W : World, Rd W W.heap.size 1 A n (ci zs) → Calls Try.prog 63 #[.slice A n c] W fun e w' => e = .returned (.bool true) ∧ W = w' := fun W hW => H1.out ▸ sIsFeatureVector_any A n c zs W hW hn
    have HC := Lib.hid hc
    have hn6 : n = 6 := by have := HL.out; omega
    clear hc hlen h1
    subst hn6
    cases h2 : inB f 0 5
    · have HV : Hid (tstB f t b zs = false) := by unfold tstB Hid; rw [H1.out, h2]; rfl
      go_enter Try.func62, Try.ntmps62
      go_wp2_with fail
      go_quiet ((first | (go_at_call 63; exact quiet_l (HC.out _ (HR.drewN _))) | (go_at_call 70; exact quiet_l (sIn_any _ _ _ _))))
      go_wp2
      go_ret
      exact ⟨ret_bool HV.out.symm, below_drewN ((Below.refl _ _).alloc (Nat.le_refl _) _) _⟩
    · obtain ⟨f0, f1⟩ := inB_true.1 h2
      obtain ⟨k, rfl⟩ := Int.eq_ofNat_of_zero_le f0
      obtain ⟨bb, off, rfl, hbb, hcell⟩ := HR0.out.int_at (k := k) (by omega)
      have HV : Hid (tstB (k : Int) t b zs = (decide (nth zs k < t) == b)) := by unfold tstB Hid; rw [H1.out, h2, Int.toNat_natCast]; rfl
      generalize nth zs k = x at hcell HV
      have hk6 : (k : Int) < 6 := by omega
      by_cases hx : x < t
      · rw [decide_eq_true hx] at HV
        cases b
        all_goals
          go_enter Try.func62, Try.ntmps62
          go_wp2_with fail
          go_quiet ((first | (go_at_call 63; exact quiet_l (HC.out _ (HR.drewN _))) | (go_at_call 70; exact quiet_l (sIn_any _ _ _ _))))
          go_wp2
          go_ret
          exact ⟨ret_bool (by rw [HV.out]; first | rfl | (simp; omega)), below_drewN ((Below.refl _ _).alloc (Nat.le_refl _) _) _⟩
      · rw [decide_eq_false hx] at HV
        have hx2 : decide (x < t) = false := decide_eq_false hx
        have hx3 : decide (t ≤ x) = true := decide_eq_true (by omega)
        cases b
        all_goals
          go_enter Try.func62, Try.ntmps62
          go_wp2_with fail
          go_quiet ((first | (go_at_call 63; exact quiet_l (HC.out _ (HR.drewN _))) | (go_at_call 70; exact quiet_l (sIn_any _ _ _ _))))
          go_wp2
          go_ret
          exact ⟨ret_bool (by rw [HV.out]; first | rfl | (simp; omega)), below_drewN ((Below.refl _ _).alloc (Nat.le_refl _) _) _⟩
end Go.Proofs.Ytjfhlhhobpdneaa
