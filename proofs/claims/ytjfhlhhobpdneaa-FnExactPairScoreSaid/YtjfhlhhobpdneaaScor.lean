/- Contracts: szIntS, szScoring, toScoring, eqScoring, IsValidScoring (both). -/
import Derived.Test.YtjfhlhhobpdneaaFeat
import Derived.Test.YtjfhlhhobpdneaaMem
import Derived.Test.YtjfhlhhobpdneaaRep
namespace Go.Proofs.Ytjfhlhhobpdneaa
open Go.RowKit

theorem szIntS_any (A : Option Addr) (n c : Nat) (left : Int) (h0 : 0 ≤ left) (h1 : left ≤ 1048576) (hn : n ≤ 9223372036854775807) (w : World) :
    Calls Try.prog 79 #[.slice A n c, .int .i64 left] w fun e w' => e = .returned (.int .i64 (if left < n then -1 else left - n)) ∧ w = w' := by
  by_cases h : left < n
  · rw [if_pos h]
    go_enter Try.func79, Try.ntmps79
    go_wp2
    go_ret
    exact ⟨rfl, rfl⟩
  · rw [if_neg h]
    go_enter Try.func79, Try.ntmps79
    go_wp2
    go_ret
    exact ⟨rfl, rfl⟩
theorem szScoring_any (A : Option Addr) (n c : Nat) (b left : Int) (h0 : 0 ≤ left) (h1 : left ≤ 1048576) (hn : n ≤ 9223372036854775807) (w : World) :
    Calls Try.prog 27 #[.agg #[.slice A n c, .int .i64 b], .int .i64 left] w fun e w' => e = .returned (.int .i64 (if left < n then -1 else left - n)) ∧ Below w.heap.size w w' := by
  by_cases h : left < n
  · rw [if_pos h]
    go_enter Try.func27, Try.ntmps27
    go_wp2_with (go_at_call 79; refine (szIntS_any _ _ _ _ h0 h1 hn _).mono ?_; rw [if_pos h]; rintro e w' ⟨rfl, rfl⟩)
    go_ret
    exact ⟨rfl, (Below.refl _ _).alloc (Nat.le_refl _) _⟩
  · rw [if_neg h]
    go_enter Try.func27, Try.ntmps27
    go_wp2_with (go_at_call 79; refine (szIntS_any _ _ _ _ h0 h1 hn _).mono ?_; rw [if_neg h]; rintro e w' ⟨rfl, rfl⟩)
    go_ret
    exact ⟨rfl, (Below.refl _ _).alloc (Nat.le_refl _) _⟩
theorem toScoring_any (A : Option Addr) (n c : Nat) (zs : List Int) (b : Int) (w : World) (hr : Rd w w.heap.size 1 A n (ci zs)) (hn : n ≤ 1048576) :
    Calls Try.prog 29 #[.agg #[.slice A n c, .int .i64 b]] w fun e w' => ∃ g, e = .returned (.agg #[.slice (some ⟨g, 0, none⟩) n n, .int .i64 b]) ∧ Blk w' g 3 (ci zs).toArray ∧ w.heap.size ≤ g ∧ Below w.heap.size w w' := by
  have hb0 : Below w.heap.size w (((w.alloc (.cells #[.slice A n c, .int .i64 b] 48)).alloc (.cells #[.slice none 0 0, .int .i64 0] 51)).alloc (.cells #[.slice none 0 0, .int .i64 0] 51)) := by
    repeat (first | exact Below.refl _ _ | refine Below.alloc ?_ (by first | omega | (simp; done) | (simp; omega)) _)
  have hr0 := (hr.below hb0).more hb0.size
  go_enter Try.func29, Try.ntmps29
  go_wp2_with fail
  refine (toIntS_any _ _ _ _ _ hr0 hn).mono ?_
  rintro e w1 ⟨rfl, hB1, hs1, hb1⟩
  obtain ⟨hc, hf⟩ := bcell hb1
  have hz : w.heap.size + 1 + 1 + 1 < w1.heap.size := by simpa using hs1
  go_wp2
  refine bodyPost_ret (v := .agg #[.slice (some ⟨w.heap.size + 1 + 1 + 1, 0, none⟩) n n, .int .i64 b]) (by simp [results, Try.results29, go_sem, hc]) rfl ⟨_, rfl, ?_, ?_, ?_⟩
  · have hB1' : Blk w1 (w.heap.size + 1 + 1 + 1) 3 (ci zs).toArray := by simpa using hB1
    repeat (first | (with_reducible exact hB1') | refine Blk.far ?_ (by simp; try omega) _)
  · omega
  · repeat (first | (with_reducible exact hb0.trans (hb1.mono hb0.size)) | refine Below.setCell ?_ (by simp; try omega) _)

theorem eqScoring_any (A A' : Option Addr) (n n' c c' : Nat) (xs ys : List Int) (b b' : Int) (w : World) (hr : Rd w w.heap.size 1 A n (ci xs)) (hr' : Rd w w.heap.size 1 A' n' (ci ys)) (hn : n ≤ 1048576) (hn' : n' ≤ 1048576) :
    Calls Try.prog 31 #[.agg #[.slice A n c, .int .i64 b], .agg #[.slice A' n' c', .int .i64 b']] w fun e w' => e = .returned (.bool (decide (xs = ys ∧ b = b'))) ∧ Below w.heap.size w w' := by
  have hb0 : Below w.heap.size w ((w.alloc (.cells #[.slice A n c, .int .i64 b] 51)).alloc (.cells #[.slice A' n' c', .int .i64 b'] 51)) := by
    repeat (first | exact Below.refl _ _ | refine Below.alloc ?_ (by first | omega | (simp; done) | (simp; omega)) _)
  have hr0 := (hr.below hb0).more hb0.size
  have hr0' := (hr'.below hb0).more hb0.size
  have HC := Lib.hid (eqIntS_any _ _ _ _ c c' _ _ _ hr0 hr0' hn hn')
  have HB0 := Lib.hid hb0
  clear hr hr' hr0 hr0' hb0
  by_cases hxy : xs = ys
  · rw [decide_eq_true hxy] at HC
    by_cases hbb : b = b'
    · rw [decide_eq_true ⟨hxy, hbb⟩]
      subst hbb
      clear hxy
      go_enter Try.func31, Try.ntmps31
      go_wp2_with (go_at_call 21; refine HC.out.mono ?_; rintro e w' ⟨rfl, k, rfl⟩)
      go_ret
      exact ⟨rfl, below_drewN HB0.out _⟩
    · rw [decide_eq_false (fun h => hbb h.2)]
      have h1 : (b == b') = false := by simpa using hbb
      have h2 : (b != b') = true := by simpa using hbb
      clear hxy hbb
      go_enter Try.func31, Try.ntmps31
      go_wp2_with (go_at_call 21; refine HC.out.mono ?_; rintro e w' ⟨rfl, k, rfl⟩)
      go_ret
      exact ⟨rfl, below_drewN HB0.out _⟩
  · rw [decide_eq_false hxy] at HC
    rw [decide_eq_false (fun h => hxy h.1)]
    clear hxy
    go_enter Try.func31, Try.ntmps31
    go_wp2_with (go_at_call 21; refine HC.out.mono ?_; rintro e w' ⟨rfl, k, rfl⟩)
    go_ret
    exact ⟨rfl, below_drewN HB0.out _⟩

/-! ### IsValidScoring -/
def AllB (lo hi : Int) (zs : List Int) (k : Nat) : Prop := ∀ i, i < k → inB (nth zs i) lo hi = true
theorem AllB.snoc {lo hi : Int} {zs : List Int} {k : Nat} (h : AllB lo hi zs k) (h' : inB (nth zs k) lo hi = true) : AllB lo hi zs (k + 1) := fun i hi' => by
  by_cases e : i = k
  · rw [e]
    exact h'
  · exact h i (by omega)
theorem AllB.all {lo hi : Int} {zs : List Int} (h : AllB lo hi zs zs.length) : (zs.all fun x => inB x lo hi) = true := by
  rw [List.all_eq_true]
  intro x hx
  obtain ⟨i, hi', rfl⟩ := List.getElem_of_mem hx
  have := h i hi'
  simpa [nth, List.getD_eq_getElem?_getD, hi'] using this
theorem allB_no {lo hi : Int} {zs : List Int} {k : Nat} (hk : k < zs.length) (h : inB (nth zs k) lo hi = false) : (zs.all fun x => inB x lo hi) = false := by
  rw [← Bool.not_eq_true]
  intro ha
  rw [List.all_eq_true] at ha
  have h2 := ha zs[k] (List.getElem_mem hk)
  simp [nth, List.getD_eq_getElem?_getD, hk] at h
  simp only [h2] at h
  cases h
def sumTo (zs : List Int) (k : Nat) : Int := (zs.take k).sum
theorem sumTo_succ {zs : List Int} {k : Nat} (h : k < zs.length) : sumTo zs (k + 1) = sumTo zs k + nth zs k := by
  unfold sumTo
  rw [List.take_succ_eq_append_getElem h, List.sum_append]
  simp [nth, h]
def scorB (zs : List Int) (b : Int) : Bool := (zs.all fun x => inB x 0 9) && decide (zs.length = 6) && decide (0 < sumTo zs zs.length) && inB b 0 1000
theorem scorB_end {zs : List Int} {b : Int} (h : AllB 0 9 zs zs.length) : scorB zs b = (decide (zs.length = 6) && decide (0 < sumTo zs zs.length) && inB b 0 1000) := by
  unfold scorB
  rw [h.all, Bool.true_and]
theorem scorB_no {zs : List Int} {b : Int} {k : Nat} (hk : k < zs.length) (h : inB (nth zs k) 0 9 = false) : scorB zs b = false := by
  unfold scorB
  rw [allB_no hk h]
  rfl
set_option maxHeartbeats 600000 in
theorem sIsValidScoring_any (A : Option Addr) (n c : Nat) (zs : List Int) (b : Int) (w : World) (hr : Rd w w.heap.size 1 A n (ci zs)) (hn : n ≤ 1048576) :
    Calls Try.prog 80 #[.agg #[.slice A n c, .int .i64 b]] w fun e w' => e = .returned (.bool (scorB zs b)) ∧ Below w.heap.size w w' := by
  have HL := Lib.hid hr.ci_len
  have HR := Lib.hid hr
  clear hr
  go_enter Try.func80, Try.ntmps80
  go_wp2
  go_loop [3, 4] (fun s i => ∃ (k : Nat) (q : Int), k ≤ n ∧ i = .int .i64 k ∧ s = .int .i64 q ∧ 0 ≤ q ∧ q ≤ 9 * k ∧ Hid (q = sumTo zs k) ∧ AllB 0 9 zs k) (fun _ i => n - (intOf i).toNat)
  case atStart => exact ⟨0, 0, by omega, rfl, rfl, by omega, by omega, rfl, fun i hi => absurd hi (by omega)⟩
  case round =>
    obtain ⟨k, q, hk, rfl, rfl, q0, q1, hq, hall⟩ := hrel
    by_cases hlt : k < n
    · obtain ⟨bb, off, rfl, hb, hc⟩ := HR.out.int_at hlt
      have HS := Lib.hid (sumTo_succ (zs := zs) (k := k) (by rw [HL.out]; exact hlt))
      generalize hx : nth zs k = x at hc
      have HX := Lib.hid hx
      clear hx
      cases hin : inB x 0 9
      · go_wp2_with (go_at_call 70; refine (sIn_any _ _ _ _).mono ?_; rintro e w' ⟨rfl, rfl⟩)
        go_ret
        exact ⟨ret_bool (scorB_no (k := k) (by rw [HL.out]; exact hlt) (by rw [HX.out]; exact hin)).symm, (Below.refl _ _).alloc (Nat.le_refl _) _⟩
      · obtain ⟨x0, x1⟩ := inB_true.1 hin
        go_wp2_with (go_at_call 70; refine (sIn_any _ _ _ _).mono ?_; rintro e w' ⟨rfl, rfl⟩)
        go_round
        case rel => exact ⟨k + 1, q + x, by omega, by go_num, rfl, by omega, by omega, by unfold Hid; rw [HS.out, HX.out, ← hq.out], hall.snoc (by rw [HX.out]; exact hin)⟩
        case measure => simp [intOf]; omega
    · have e : k = n := by omega
      subst e
      have HV : Hid (scorB zs b = (decide (zs.length = 6) && decide (0 < q) && inB b 0 1000)) := by unfold Hid; rw [scorB_end (by rw [HL.out]; exact hall), HL.out, ← hq.out]
      clear hall
      by_cases h6 : k = 6
      · subst h6
        rw [HL.out] at HV
        by_cases hq0 : 0 < q
        · rw [decide_eq_true hq0] at HV
          go_wp2_with (go_at_call 70; refine (sIn_any _ _ _ _).mono ?_; rintro e w' ⟨rfl, rfl⟩)
          go_ret
          exact ⟨ret_bool (by rw [HV.out]; simp), (Below.refl _ _).alloc (Nat.le_refl _) _⟩
        · rw [decide_eq_false hq0] at HV
          go_wp2_with (go_at_call 70; refine (sIn_any _ _ _ _).mono ?_; rintro e w' ⟨rfl, rfl⟩)
          go_ret
          exact ⟨ret_bool (by rw [HV.out]; simp), (Below.refl _ _).alloc (Nat.le_refl _) _⟩
      · rw [HL.out, decide_eq_false h6] at HV
        have h6' : ((k : Int) == 6) = false := by simp; omega
        go_wp2_with (go_at_call 70; refine (sIn_any _ _ _ _).mono ?_; rintro e w' ⟨rfl, rfl⟩)
        go_ret
        exact ⟨ret_bool (by rw [HV.out]; simp), (Below.refl _ _).alloc (Nat.le_refl _) _⟩
set_option maxHeartbeats 600000 in
theorem IsValidScoring_any (A : Option Addr) (n c : Nat) (zs : List Int) (b : Int) (w : World) (hr : Rd w w.heap.size 1 A n (ci zs)) (hn : n ≤ 1048576) :
    Calls Try.prog 82 #[.agg #[.slice A n c, .int .i64 b]] w fun e w' => e = .returned (.bool (scorB zs b)) ∧ Below w.heap.size w w' := by
  have HL := Lib.hid hr.ci_len
  have HR := Lib.hid hr
  clear hr
  go_enter Try.func82, Try.ntmps82
  go_wp2
  go_loop [3, 9] (fun s i => ∃ (k : Nat) (q : Int), k ≤ n ∧ i = .int .i64 k ∧ s = .int .i64 q ∧ 0 ≤ q ∧ q ≤ 9 * k ∧ Hid (q = sumTo zs k) ∧ AllB 0 9 zs k) (fun _ i => n - (intOf i).toNat)
  case atStart => exact ⟨0, 0, by omega, rfl, rfl, by omega, by omega, rfl, fun i hi => absurd hi (by omega)⟩
  case round =>
    obtain ⟨k, q, hk, rfl, rfl, q0, q1, hq, hall⟩ := hrel
    by_cases hlt : k < n
    · obtain ⟨bb, off, rfl, hb, hc⟩ := HR.out.int_at hlt
      have HS := Lib.hid (sumTo_succ (zs := zs) (k := k) (by rw [HL.out]; exact hlt))
      generalize hx : nth zs k = x at hc
      have HX := Lib.hid hx
      clear hx
      cases hin : inB x 0 9
      · go_wp2_with (go_at_call 73; refine (within_any _ _ _ _).mono ?_; rintro e w' ⟨rfl, rfl⟩)
        go_ret
        exact ⟨ret_bool (scorB_no (k := k) (by rw [HL.out]; exact hlt) (by rw [HX.out]; exact hin)).symm, (Below.refl _ _).alloc (Nat.le_refl _) _⟩
      · obtain ⟨x0, x1⟩ := inB_true.1 hin
        go_wp2_with (go_at_call 73; refine (within_any _ _ _ _).mono ?_; rintro e w' ⟨rfl, rfl⟩)
        go_round
        case rel => exact ⟨k + 1, q + x, by omega, by go_num, rfl, by omega, by omega, by unfold Hid; rw [HS.out, HX.out, ← hq.out], hall.snoc (by rw [HX.out]; exact hin)⟩
        case measure => simp [intOf]; omega
    · have e : k = n := by omega
      subst e
      have HV : Hid (scorB zs b = (decide (zs.length = 6) && decide (0 < q) && inB b 0 1000)) := by unfold Hid; rw [scorB_end (by rw [HL.out]; exact hall), HL.out, ← hq.out]
      clear hall
      by_cases h6 : k = 6
      · subst h6
        rw [HL.out] at HV
        by_cases hq0 : 0 < q
        · rw [decide_eq_true hq0] at HV
          go_wp2_with (go_at_call 73; refine (within_any _ _ _ _).mono ?_; rintro e w' ⟨rfl, rfl⟩)
          go_ret
          exact ⟨ret_bool (by rw [HV.out]; simp), (Below.refl _ _).alloc (Nat.le_refl _) _⟩
        · rw [decide_eq_false hq0] at HV
          go_wp2_with (go_at_call 73; refine (within_any _ _ _ _).mono ?_; rintro e w' ⟨rfl, rfl⟩)
          go_ret
          exact ⟨ret_bool (by rw [HV.out]; simp), (Below.refl _ _).alloc (Nat.le_refl _) _⟩
      · rw [HL.out, decide_eq_false h6] at HV
        have h6' : ((k : Int) == 6) = false := by simp; omega
        go_wp2_with (go_at_call 73; refine (within_any _ _ _ _).mono ?_; rintro e w' ⟨rfl, rfl⟩)
        go_ret
        exact ⟨ret_bool (by rw [HV.out]; simp), (Below.refl _ _).alloc (Nat.le_refl _) _⟩
end Go.Proofs.Ytjfhlhhobpdneaa
