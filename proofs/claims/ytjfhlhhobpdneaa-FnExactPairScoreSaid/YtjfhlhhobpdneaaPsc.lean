/- Contracts: CombineScores (both) at a feature vector and valid weights, PairScore (both). -/
import Derived.Test.YtjfhlhhobpdneaaScor
namespace Go.Proofs.Ytjfhlhhobpdneaa
open Go.RowKit

def dotTo (xs ws : List Int) : Nat → Int
  | 0 => 0
  | k + 1 => dotTo xs ws k + nth xs k * nth ws k
def combV (xs ws : List Int) : Int := if sumTo ws ws.length = 0 then 0 else dotTo xs ws ws.length / sumTo ws ws.length
theorem isFV_at {zs : List Int} (h : isFV zs = true) {k : Nat} (hk : k < 6) : inB (nth zs k) 0 1000 = true := by
  have hl := isFV_len h
  unfold isFV at h
  simp only [Bool.and_eq_true, List.all_eq_true] at h
  have := h.2 zs[k] (List.getElem_mem (by omega))
  simpa [nth, List.getD_eq_getElem?_getD, List.getElem?_eq_getElem (show k < zs.length by omega)] using this
theorem scorB_at {ws : List Int} {b : Int} (h : scorB ws b = true) {k : Nat} (hk : k < 6) : inB (nth ws k) 0 9 = true ∧ ws.length = 6 := by
  unfold scorB at h
  simp only [Bool.and_eq_true, List.all_eq_true, decide_eq_true_iff] at h
  have hl := h.1.1.2
  have := h.1.1.1 ws[k] (List.getElem_mem (by omega))
  exact ⟨by simpa [nth, List.getD_eq_getElem?_getD, List.getElem?_eq_getElem (show k < ws.length by omega)] using this, hl⟩
theorem sum6_nil : sumTo [] 0 = 0 := rfl
theorem wide9 {x : Int} (h : inB x 0 9 = true) : inB x 0 1000 = true := by
  rw [inB_true] at *
  omega
set_option maxHeartbeats 1000000 in
theorem CombineScores_any (A A' : Option Addr) (n n' c c' : Nat) (xs ws : List Int) (b : Int) (w : World) (hr : Rd w w.heap.size 1 A n (ci xs)) (hr' : Rd w w.heap.size 1 A' n' (ci ws)) (hx : isFV xs = true) (hw : scorB ws b = true) :
    Calls Try.prog 83 #[.slice A n c, .slice A' n' c'] w fun e w' => e = .returned (.int .i64 (combV xs ws)) ∧ ∃ d, w' = w.drewN d := by
  have hlx := isFV_len hx
  have hlw := (scorB_at hw (k := 0) (by omega)).2
  have e1 := hr.ci_len
  have e2 := hr'.ci_len
  obtain rfl : n = 6 := by omega
  obtain rfl : n' = 6 := by omega
  have HX := Lib.hid hx
  have HW := Lib.hid hw
  have HLW := Lib.hid hlw
  obtain ⟨ba, off, rfl, hb, hc⟩ := hr.all_cells (by omega)
  obtain ⟨bb, off', rfl, hb', hc'⟩ := hr'.all_cells (by omega)
  have HC := Lib.hid hc
  have HC' := Lib.hid hc'
  clear hx hw hlx hlw e1 e2 hr hr' hc hc'
  go_enter Try.func83, Try.ntmps83
  go_wp2
  go_loop [5, 6, 16] (fun s t i => ∃ (k : Nat) (p q : Int), k ≤ 6 ∧ i = .int .i64 k ∧ s = .int .i64 p ∧ t = .int .i64 q ∧ 0 ≤ p ∧ p ≤ 9000 * k ∧ 0 ≤ q ∧ q ≤ 9 * k ∧ Hid (p = dotTo xs ws k ∧ q = sumTo ws k)) (fun _ _ i => 6 - (intOf i).toNat)
  case atStart => exact ⟨0, 0, 0, by omega, rfl, rfl, rfl, by omega, by omega, by omega, by omega, ⟨rfl, rfl⟩⟩
  case round =>
    obtain ⟨k, p, q, hk, rfl, rfl, rfl, p0, p1, q0, q1, hpq⟩ := hrel
    by_cases hlt : k < 6
    · have hc := HC.out k hlt
      have hc' := HC'.out k hlt
      have hx := isFV_at HX.out hlt
      have hw9 := (scorB_at HW.out hlt).1
      have hw := wide9 hw9
      have HD : Hid (dotTo xs ws (k + 1) = dotTo xs ws k + nth xs k * nth ws k) := rfl
      have HS := Lib.hid (sumTo_succ (zs := ws) (k := k) (by rw [HLW.out]; exact hlt))
      generalize nth xs k = x at hc hx HD
      generalize nth ws k = y at hc' hw9 hw HD HS
      obtain ⟨x0, x1⟩ := inB_true.1 hx
      obtain ⟨y0, y1⟩ := inB_true.1 hw9
      have m0 : 0 ≤ x * y := Int.mul_nonneg x0 y0
      have m1 : x * y ≤ 1000 * 9 := Int.mul_le_mul x1 y1 y0 (by omega)
      clear hw9
      go_wp2_with (go_at_call 73; refine (within_any _ _ _ _).mono ?_; rintro e w' ⟨rfl, rfl⟩)
      go_round
      case rel => exact ⟨k + 1, p + x * y, q + y, by omega, by go_num, rfl, rfl, by omega, by omega, by omega, by omega, ⟨by rw [HD.out, ← hpq.out.1], by rw [HS.out, ← hpq.out.2]⟩⟩
      case measure => simp [intOf]; omega
    · obtain rfl : k = 6 := by omega
      have HV : Hid (combV xs ws = if q = 0 then 0 else p / q) := by unfold Hid combV; rw [HLW.out, ← hpq.out.1, ← hpq.out.2]
      by_cases hq : q = 0
      · rw [if_pos hq] at HV
        subst hq
        go_wp2
        go_ret
        exact ⟨ret_int HV.out.symm, 0, rfl⟩
      · rw [if_neg hq] at HV
        have hq' : (q == 0) = false := by simpa using hq
        have hq1 : 1 ≤ q := by omega
        have d0 : 0 ≤ p / q := Int.ediv_nonneg p0 q0
        have d1 : p / q ≤ p := Int.ediv_le_self _ p0
        clear hq
        go_wp2
        go_ret
        exact ⟨ret_int HV.out.symm, 0, rfl⟩
set_option maxHeartbeats 1000000 in
theorem sCombineScores_any (A A' : Option Addr) (n n' c c' : Nat) (xs ws : List Int) (b : Int) (w : World) (hr : Rd w w.heap.size 1 A n (ci xs)) (hr' : Rd w w.heap.size 1 A' n' (ci ws)) (hx : isFV xs = true) (hw : scorB ws b = true) :
    Calls Try.prog 81 #[.slice A n c, .slice A' n' c'] w fun e w' => e = .returned (.int .i64 (combV xs ws)) ∧ ∃ d, w' = w.drewN d := by
  have hlx := isFV_len hx
  have hlw := (scorB_at hw (k := 0) (by omega)).2
  have e1 := hr.ci_len
  have e2 := hr'.ci_len
  obtain rfl : n = 6 := by omega
  obtain rfl : n' = 6 := by omega
  have HX := Lib.hid hx
  have HW := Lib.hid hw
  have HLW := Lib.hid hlw
  obtain ⟨ba, off, rfl, hb, hc⟩ := hr.all_cells (by omega)
  obtain ⟨bb, off', rfl, hb', hc'⟩ := hr'.all_cells (by omega)
  have HC := Lib.hid hc
  have HC' := Lib.hid hc'
  clear hx hw hlx hlw e1 e2 hr hr' hc hc'
  go_enter Try.func81, Try.ntmps81
  go_wp2
  go_loopw [5, 6, 7] (fun s t i wr => ∃ (k d : Nat) (p q : Int), k ≤ 6 ∧ wr = w.drewN d ∧ i = .int .i64 k ∧ s = .int .i64 p ∧ t = .int .i64 q ∧ 0 ≤ p ∧ p ≤ 9000 * k ∧ 0 ≤ q ∧ q ≤ 9 * k ∧ Hid (p = dotTo xs ws k ∧ q = sumTo ws k)) (fun _ _ i _ => 6 - (intOf i).toNat)
  case atStart => exact ⟨0, 0, 0, 0, by omega, rfl, rfl, rfl, rfl, by omega, by omega, by omega, by omega, ⟨rfl, rfl⟩⟩
  case round =>
    obtain ⟨k, d, p, q, hk, rfl, rfl, rfl, rfl, p0, p1, q0, q1, hpq⟩ := hrel
    by_cases hlt : k < 6
    · have hc := HC.out k hlt
      have hc' := HC'.out k hlt
      have hx := isFV_at HX.out hlt
      have hw9 := (scorB_at HW.out hlt).1
      have hw := wide9 hw9
      have HD : Hid (dotTo xs ws (k + 1) = dotTo xs ws k + nth xs k * nth ws k) := rfl
      have HS := Lib.hid (sumTo_succ (zs := ws) (k := k) (by rw [HLW.out]; exact hlt))
      generalize nth xs k = x at hc hx HD
      generalize nth ws k = y at hc' hw9 hw HD HS
      obtain ⟨x0, x1⟩ := inB_true.1 hx
      obtain ⟨y0, y1⟩ := inB_true.1 hw9
      have m0 : 0 ≤ x * y := Int.mul_nonneg x0 y0
      have m1 : x * y ≤ 1000 * 9 := Int.mul_le_mul x1 y1 y0 (by omega)
      have hwm : IntKind.i64.wrap (x * y) = x * y := IntWalk.i64_in _ (by omega)
      have hws : IntKind.i64.wrap (p + x * y) = p + x * y := IntWalk.i64_in _ (by omega)
      clear hw9
      go_wp2_with (go_at_call 70; refine (sIn_any _ _ _ _).mono ?_; rintro e w' ⟨rfl, rfl⟩)
      go_quiet (fail)
      go_wp2
      go_roundw
      case rel => exact ⟨k + 1, _, p + x * y, q + y, by omega, rfl, by go_num, rfl, rfl, by omega, by omega, by omega, by omega, ⟨by rw [HD.out, ← hpq.out.1], by rw [HS.out, ← hpq.out.2]⟩⟩
      case measure => simp [intOf]; omega
    · obtain rfl : k = 6 := by omega
      have HV : Hid (combV xs ws = if q = 0 then 0 else p / q) := by unfold Hid combV; rw [HLW.out, ← hpq.out.1, ← hpq.out.2]
      by_cases hq : q = 0
      · rw [if_pos hq] at HV
        subst hq
        go_wp2
        go_ret
        exact ⟨ret_int HV.out.symm, _, rfl⟩
      · rw [if_neg hq] at HV
        have hq' : (q == 0) = false := by simpa using hq
        have hq1 : 1 ≤ q := by omega
        have d0 : 0 ≤ p / q := Int.ediv_nonneg p0 q0
        have d1 : p / q ≤ p := Int.ediv_le_self _ p0
        clear hq
        go_wp2
        go_ret
        exact ⟨ret_int HV.out.symm, _, rfl⟩

def pscV (ws : List Int) (b : Int) (xs : List Int) : Int := if scorB ws b && isFV xs then combV xs ws else 0
theorem PairScore_any (A A' : Option Addr) (n n' c c' : Nat) (ws xs : List Int) (b : Int) (w : World) (hr : Rd w w.heap.size 1 A n (ci ws)) (hr' : Rd w w.heap.size 1 A' n' (ci xs)) (hn : n ≤ 1048576) (hn' : n' ≤ 1048576) :
    Calls Try.prog 30 #[.agg #[.slice A n c, .int .i64 b], .slice A' n' c'] w fun e w' => e = .returned (.int .i64 (pscV ws b xs)) ∧ Below w.heap.size w w' := by
  have HB0 := Lib.hid ((Below.refl w.heap.size w).alloc (Nat.le_refl _) (.cells #[.slice A n c, .int .i64 b] 51))
  have r1 := (hr.below HB0.out).more HB0.out.size
  have q1 := (hr'.below HB0.out).more HB0.out.size
  have K1 := Blk.new w 51 #[.slice A n c, .int .i64 b]
  clear hr hr'
  cases h1 : scorB ws b
  · have HV : Hid (pscV ws b xs = 0) := by unfold Hid pscV; rw [h1]; rfl
    have H1 := Lib.hid h1
    clear h1
    go_enter Try.func30, Try.ntmps30
    go_wp2_with fail
    refine (IsValidScoring_any _ _ _ _ _ _ r1 hn).mono ?_
    rw [H1.out]
    rintro e w1 ⟨rfl, hb1⟩
    go_wp2_with fail
    go_ret
    exact ⟨ret_int HV.out.symm, HB0.out.trans (hb1.mono HB0.out.size)⟩
  · cases h2 : isFV xs
    · have HV : Hid (pscV ws b xs = 0) := by unfold Hid pscV; rw [h1, h2]; rfl
      have H1 := Lib.hid h1
      have H2 := Lib.hid h2
      clear h1 h2
      go_enter Try.func30, Try.ntmps30
      go_wp2_with fail
      refine (IsValidScoring_any _ _ _ _ _ _ r1 hn).mono ?_
      rw [H1.out]
      rintro e w1 ⟨rfl, hb1⟩
      have q2 := (q1.below hb1).more hb1.size
      go_wp2_with fail
      refine (IsFeatureVector_any _ _ _ _ _ q2 hn').mono ?_
      rw [H2.out]
      rintro e w2 ⟨rfl, rfl⟩
      go_wp2_with fail
      go_ret
      exact ⟨ret_int HV.out.symm, HB0.out.trans (hb1.mono HB0.out.size)⟩
    · have HV : Hid (pscV ws b xs = combV xs ws) := by unfold Hid pscV; rw [h1, h2]; rfl
      have H1 := Lib.hid h1
      have H2 := Lib.hid h2
      clear h1 h2
      go_enter Try.func30, Try.ntmps30
      go_wp2_with fail
      refine (IsValidScoring_any _ _ _ _ _ _ r1 hn).mono ?_
      rw [H1.out]
      rintro e w1 ⟨rfl, hb1⟩
      have q2 := (q1.below hb1).more hb1.size
      have r2 := (r1.below hb1).more hb1.size
      have K2 := K1.below hb1 K1.lt
      have k0 := K2.cell 0
      simp only [List.getElem?_toArray, List.getElem?_cons_zero] at k0
      go_wp2_with fail
      refine (IsFeatureVector_any _ _ _ _ _ q2 hn').mono ?_
      rw [H2.out]
      rintro e w2 ⟨rfl, rfl⟩
      go_wp2_with fail
      refine (CombineScores_any _ _ _ _ _ _ _ _ b _ q2 r2 H2.out H1.out).mono ?_
      rintro e w3 ⟨rfl, d, rfl⟩
      go_wp2_with fail
      go_ret
      exact ⟨ret_int HV.out.symm, below_drewN (HB0.out.trans (hb1.mono HB0.out.size)) _⟩
theorem sPairScore_any (A A' : Option Addr) (n n' c c' : Nat) (ws xs : List Int) (b : Int) (w : World) (hr : Rd w w.heap.size 1 A n (ci ws)) (hr' : Rd w w.heap.size 1 A' n' (ci xs)) (hn : n ≤ 1048576) (hn' : n' ≤ 1048576) :
    Calls Try.prog 28 #[.agg #[.slice A n c, .int .i64 b], .slice A' n' c'] w fun e w' => e = .returned (.int .i64 (pscV ws b xs)) ∧ Below w.heap.size w w' := by
  have HB0 := Lib.hid ((Below.refl w.heap.size w).alloc (Nat.le_refl _) (.cells #[.slice A n c, .int .i64 b] 51))
  have r1 := (hr.below HB0.out).more HB0.out.size
  have q1 := (hr'.below HB0.out).more HB0.out.size
  have K1 := Blk.new w 51 #[.slice A n c, .int .i64 b]
  clear hr hr'
  cases h1 : scorB ws b
  · have HV : Hid (pscV ws b xs = 0) := by unfold Hid pscV; rw [h1]; rfl
    have H1 := Lib.hid h1
    clear h1
    go_enter Try.func28, Try.ntmps28
    go_wp2_with fail
    refine (sIsValidScoring_any _ _ _ _ _ _ r1 hn).mono ?_
    rw [H1.out]
    rintro e w1 ⟨rfl, hb1⟩
    go_wp2_with fail
    go_ret
    exact ⟨ret_int HV.out.symm, HB0.out.trans (hb1.mono HB0.out.size)⟩
  · cases h2 : isFV xs
    · have HV : Hid (pscV ws b xs = 0) := by unfold Hid pscV; rw [h1, h2]; rfl
      have H1 := Lib.hid h1
      have H2 := Lib.hid h2
      clear h1 h2
      go_enter Try.func28, Try.ntmps28
      go_wp2_with fail
      refine (sIsValidScoring_any _ _ _ _ _ _ r1 hn).mono ?_
      rw [H1.out]
      rintro e w1 ⟨rfl, hb1⟩
      have q2 := (q1.below hb1).more hb1.size
      go_wp2_with fail
      refine (sIsFeatureVector_any _ _ _ _ _ q2 hn').mono ?_
      rw [H2.out]
      rintro e w2 ⟨rfl, rfl⟩
      go_wp2_with fail
      go_ret
      exact ⟨ret_int HV.out.symm, HB0.out.trans (hb1.mono HB0.out.size)⟩
    · have HV : Hid (pscV ws b xs = combV xs ws) := by unfold Hid pscV; rw [h1, h2]; rfl
      have H1 := Lib.hid h1
      have H2 := Lib.hid h2
      clear h1 h2
      go_enter Try.func28, Try.ntmps28
      go_wp2_with fail
      refine (sIsValidScoring_any _ _ _ _ _ _ r1 hn).mono ?_
      rw [H1.out]
      rintro e w1 ⟨rfl, hb1⟩
      have q2 := (q1.below hb1).more hb1.size
      have r2 := (r1.below hb1).more hb1.size
      have K2 := K1.below hb1 K1.lt
      have k0 := K2.cell 0
      simp only [List.getElem?_toArray, List.getElem?_cons_zero] at k0
      go_wp2_with fail
      refine (sIsFeatureVector_any _ _ _ _ _ q2 hn').mono ?_
      rw [H2.out]
      rintro e w2 ⟨rfl, rfl⟩
      go_wp2_with fail
      refine (sCombineScores_any _ _ _ _ _ _ _ _ b _ q2 r2 H2.out H1.out).mono ?_
      rintro e w3 ⟨rfl, d, rfl⟩
      go_wp2_with fail
      go_ret
      exact ⟨ret_int HV.out.symm, below_drewN (HB0.out.trans (hb1.mono HB0.out.size)) _⟩
end Go.Proofs.Ytjfhlhhobpdneaa
