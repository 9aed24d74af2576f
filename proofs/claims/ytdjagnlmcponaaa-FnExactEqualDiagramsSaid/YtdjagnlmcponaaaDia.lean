/- Contracts: szDiagram, toDiagram, eqDiagram, EqualDiagrams (both), slices.Equal over DiagramNode. -/
import Derived.Test.YtdjagnlmcponaaaDn
namespace Go.Proofs.Ytdjagnlmcponaaa
open Go.RowKit

theorem szDiagramNodeS_any (A : Option Addr) (n c : Nat) (left : Int) (h0 : 0 ≤ left) (h1 : left ≤ 1048576) (hn : n ≤ 9223372036854775807) (w : World) :
    Calls Try.prog 61 #[.slice A n c, .int .i64 left] w fun e w' => e = .returned (.int .i64 (if left < n then -1 else left - n)) ∧ w = w' := by
  by_cases h : left < n
  · rw [if_pos h]
    go_enter Try.func61, Try.ntmps61
    go_wp2
    go_ret
    exact ⟨rfl, rfl⟩
  · rw [if_neg h]
    go_enter Try.func61, Try.ntmps61
    go_wp2
    go_ret
    exact ⟨rfl, rfl⟩
theorem szDiagram_any (A : Option Addr) (n c : Nat) (b left : Int) (h0 : 0 ≤ left) (h1 : left ≤ 1048576) (hn : n ≤ 9223372036854775807) (w : World) :
    Calls Try.prog 43 #[.agg #[.int .i64 b, .slice A n c], .int .i64 left] w fun e w' => e = .returned (.int .i64 (if left < n then -1 else left - n)) ∧ Below w.heap.size w w' := by
  by_cases h : left < n
  · rw [if_pos h]
    go_enter Try.func43, Try.ntmps43
    go_wp2_with (go_at_call 61; refine (szDiagramNodeS_any _ _ _ _ h0 h1 hn _).mono ?_; rw [if_pos h]; rintro e w' ⟨rfl, rfl⟩)
    go_ret
    exact ⟨rfl, (Below.refl _ _).alloc (Nat.le_refl _) _⟩
  · rw [if_neg h]
    go_enter Try.func43, Try.ntmps43
    go_wp2_with (go_at_call 61; refine (szDiagramNodeS_any _ _ _ _ h0 h1 hn _).mono ?_; rw [if_neg h]; rintro e w' ⟨rfl, rfl⟩)
    go_ret
    exact ⟨rfl, (Below.refl _ _).alloc (Nat.le_refl _) _⟩
theorem toDiagram_any (A : Option Addr) (n c : Nat) (l : List (Int × Int × Int × Int)) (b : Int) (w : World) (hr : Rd w w.heap.size 4 A n (cdn l)) (hn : n ≤ 1048576) :
    Calls Try.prog 45 #[.agg #[.int .i64 b, .slice A n c]] w fun e w' => ∃ g, e = .returned (.agg #[.int .i64 b, .slice (some ⟨g, 0, none⟩) n n]) ∧ Blk w' g 79 (cdn l).toArray ∧ w.heap.size ≤ g ∧ Below w.heap.size w w' := by
  have hb0 : Below w.heap.size w (((w.alloc (.cells #[.int .i64 b, .slice A n c] 58)).alloc (.cells #[.int .i64 0, .slice none 0 0] 63)).alloc (.cells #[.int .i64 b, .slice none 0 0] 63)) := by
    repeat (first | exact Below.refl _ _ | refine Below.alloc ?_ (by first | omega | (simp; done) | (simp; omega)) _)
  have hr0 := (hr.below hb0).more hb0.size
  go_enter Try.func45, Try.ntmps45
  go_wp2_with fail
  refine (toDiagramNodeS_any _ _ _ _ _ hr0 hn).mono ?_
  rintro e w1 ⟨rfl, hB1, hs1, hb1⟩
  obtain ⟨hc, hf⟩ := bcell hb1
  have hz : w.heap.size + 1 + 1 + 1 < w1.heap.size := by simpa using hs1
  go_wp2
  refine bodyPost_ret (v := .agg #[.int .i64 b, .slice (some ⟨w.heap.size + 1 + 1 + 1, 0, none⟩) n n]) (by simp [results, Try.results45, go_sem, hc]) rfl ⟨_, rfl, ?_, ?_, ?_⟩
  · have hB1' : Blk w1 (w.heap.size + 1 + 1 + 1) 79 (cdn l).toArray := by simpa using hB1
    repeat (first | (with_reducible exact hB1') | refine Blk.far ?_ (by simp; try omega) _)
  · omega
  · repeat (first | (with_reducible exact hb0.trans (hb1.mono hb0.size)) | refine Below.setCell ?_ (by simp; try omega) _)

theorem eqDiagram_any (A A' : Option Addr) (n n' c c' : Nat) (xs ys : List (Int × Int × Int × Int)) (b b' : Int) (w : World) (hr : Rd w w.heap.size 4 A n (cdn xs)) (hr' : Rd w w.heap.size 4 A' n' (cdn ys)) (hn : n ≤ 1048576) (hn' : n' ≤ 1048576) :
    Calls Try.prog 47 #[.agg #[.int .i64 b, .slice A n c], .agg #[.int .i64 b', .slice A' n' c']] w fun e w' => e = .returned (.bool (decide (b = b' ∧ xs = ys))) ∧ Below w.heap.size w w' := by
  have hb0 : Below w.heap.size w ((w.alloc (.cells #[.int .i64 b, .slice A n c] 63)).alloc (.cells #[.int .i64 b', .slice A' n' c'] 63)) := by
    repeat (first | exact Below.refl _ _ | refine Below.alloc ?_ (by first | omega | (simp; done) | (simp; omega)) _)
  have hr0 := (hr.below hb0).more hb0.size
  have hr0' := (hr'.below hb0).more hb0.size
  have HC := Lib.hid (eqDiagramNodeS_any _ _ _ _ c c' _ _ _ hr0 hr0' hn hn')
  have HB0 := Lib.hid hb0
  have hs0 := hb0.size
  clear hr hr' hr0 hr0' hb0
  by_cases hbb : b = b'
  · subst hbb
    by_cases hxy : xs = ys
    · rw [decide_eq_true hxy] at HC
      rw [decide_eq_true ⟨rfl, hxy⟩]
      clear hxy
      go_enter Try.func47, Try.ntmps47
      go_wp2_with (go_at_call 64; refine HC.out.mono ?_; rintro e w' ⟨rfl, hb1⟩)
      go_ret
      exact ⟨rfl, HB0.out.trans (hb1.mono HB0.out.size)⟩
    · rw [decide_eq_false hxy] at HC
      rw [decide_eq_false (fun h => hxy h.2)]
      clear hxy
      go_enter Try.func47, Try.ntmps47
      go_wp2_with (go_at_call 64; refine HC.out.mono ?_; rintro e w' ⟨rfl, hb1⟩)
      go_ret
      exact ⟨rfl, HB0.out.trans (hb1.mono HB0.out.size)⟩
  · rw [decide_eq_false (fun h => hbb h.1)]
    have h1 : (b == b') = false := by simpa using hbb
    have h2 : (b != b') = true := by simpa using hbb
    clear hbb
    go_enter Try.func47, Try.ntmps47
    go_wp2_with fail
    go_ret
    exact ⟨rfl, HB0.out⟩

/-! ### slices.Equal over nodes -/
theorem sliceEqualDN_any (A A' : Option Addr) (n n' c c' : Nat) (xs ys : List (Int × Int × Int × Int)) (w : World) (hr : Rd w w.heap.size 4 A n (cdn xs)) (hr' : Rd w w.heap.size 4 A' n' (cdn ys)) (hn : n ≤ 1048576) (hn' : n' ≤ 1048576) :
    Calls Try.prog 63 #[.slice A n c, .slice A' n' c'] w fun e w' => e = .returned (.bool (decide (xs = ys))) ∧ ∃ d, w' = w.drewN d := by
  have HL := Lib.hid hr.dn_len
  have HL' := Lib.hid hr'.dn_len
  have HR := Lib.hid hr.dn_cells
  have HR' := Lib.hid hr'.dn_cells
  clear hr hr'
  by_cases hnn : n = n'
  · subst hnn
    go_enter Try.func63, Try.ntmps63
    go_wp2
    go_loopw [13] (fun i wr => ∃ k d : Nat, k ≤ n ∧ i = .int .i64 k ∧ wr = w.drewN d ∧ Samedn xs ys k) (fun i _ => n - (intOf i).toNat)
    case atStart => exact ⟨0, 0, by omega, rfl, rfl, fun i hi => absurd hi (by omega)⟩
    case round =>
      obtain ⟨k, d, hk, rfl, rfl, hsm⟩ := hrel
      by_cases hlt : k < n
      · obtain ⟨b, off, rfl, hb, hcc⟩ := HR.out (by omega)
        obtain ⟨b', off', rfl, hb', hcc'⟩ := HR'.out (by omega)
        obtain ⟨e0, e1, e2, e3⟩ := hcc k hlt
        obtain ⟨g0, g1, g2, g3⟩ := hcc' k hlt
        clear hcc hcc'
        generalize hs0 : dn0 xs k = p0 at e0
        generalize hs1 : dn1 xs k = p1 at e1
        generalize hs2 : dn2 xs k = p2 at e2
        generalize hs3 : dn3 xs k = p3 at e3
        generalize ht0 : dn0 ys k = q0 at g0
        generalize ht1 : dn1 ys k = q1 at g1
        generalize ht2 : dn2 ys k = q2 at g2
        generalize ht3 : dn3 ys k = q3 at g3
        have HS := Lib.hid (And.intro hs0 (And.intro hs1 (And.intro hs2 hs3)))
        have HT := Lib.hid (And.intro ht0 (And.intro ht1 (And.intro ht2 ht3)))
        clear hs0 hs1 hs2 hs3 ht0 ht1 ht2 ht3
        have hneq : ∀ wx : World, (binOp .neq 79 (.agg #[.int .i64 p0, .int .i64 p1, .int .i64 p2, .int .i64 p3]) (.agg #[.int .i64 q0, .int .i64 q1, .int .i64 q2, .int .i64 q3])).run Try.prog wx = .ok (.bool (!(p0 == q0 && p1 == q1 && p2 == q2 && p3 == q3))) wx := by
          intro wx
          cases h0 : p0 == q0 <;> cases h1 : p1 == q1 <;> cases h2 : p2 == q2 <;> cases h3 : p3 == q3 <;> simp [go_sem, h0, h1, h2, h3]
        by_cases heq : p0 = q0 ∧ p1 = q1 ∧ p2 = q2 ∧ p3 = q3
        · have HE := Lib.hid heq
          have hv : (!(p0 == q0 && p1 == q1 && p2 == q2 && p3 == q3)) = false := by simp [heq]
          rw [hv] at hneq
          clear heq hv
          go_wp2
          go_quiet (fail)
          go_wp2
          go_roundw
          case rel => exact ⟨k + 1, _, by omega, by go_num, rfl, hsm.snoc ⟨by rw [HS.out.1, HT.out.1, HE.out.1], by rw [HS.out.2.1, HT.out.2.1, HE.out.2.1], by rw [HS.out.2.2.1, HT.out.2.2.1, HE.out.2.2.1], by rw [HS.out.2.2.2, HT.out.2.2.2, HE.out.2.2.2]⟩⟩
          case measure => simp [intOf]; omega
        · have HE := Lib.hid heq
          have hv : (!(p0 == q0 && p1 == q1 && p2 == q2 && p3 == q3)) = true := by
            rw [Bool.not_eq_true', Bool.eq_false_iff]
            intro h
            simp only [Bool.and_eq_true, beq_iff_eq] at h
            exact heq ⟨h.1.1.1, h.1.1.2, h.1.2, h.2⟩
          rw [hv] at hneq
          clear heq hv
          go_wp2
          go_quiet (fail)
          go_wp2
          go_ret
          refine ⟨ret_bool ?_, _, by first | rfl | exact World.drewN_drewN _ _ _⟩
          rw [eq_comm, decide_eq_false_iff_not]
          rintro rfl
          exact HE.out ⟨HS.out.1.symm.trans HT.out.1, HS.out.2.1.symm.trans HT.out.2.1, HS.out.2.2.1.symm.trans HT.out.2.2.1, HS.out.2.2.2.symm.trans HT.out.2.2.2⟩
      · have e : k = n := by omega
        have HS := Lib.hid hsm
        clear hsm
        subst e
        go_wp2
        go_ret
        refine ⟨ret_bool ?_, _, rfl⟩
        rw [eq_comm, decide_eq_true_iff]
        have h1 := HL.out
        have h2 := HL'.out
        exact Samedn.eq (by rw [h1]; exact HS.out) (by omega)
  · have h1 : ((n : Int) == (n' : Int)) = false := by simp; omega
    have h2 : ((n : Int) != (n' : Int)) = true := by simp; omega
    have HN := Lib.hid hnn
    clear hnn
    go_enter Try.func63, Try.ntmps63
    go_wp2
    go_ret
    refine ⟨ret_bool ?_, 0, rfl⟩
    rw [eq_comm, decide_eq_false_iff_not]
    rintro rfl
    exact HN.out (HL.out.symm.trans HL'.out)

theorem EqualDiagrams_any (A A' : Option Addr) (n n' c c' : Nat) (xs ys : List (Int × Int × Int × Int)) (b b' : Int) (w : World) (hr : Rd w w.heap.size 4 A n (cdn xs)) (hr' : Rd w w.heap.size 4 A' n' (cdn ys)) (hn : n ≤ 1048576) (hn' : n' ≤ 1048576) :
    Calls Try.prog 46 #[.agg #[.int .i64 b, .slice A n c], .agg #[.int .i64 b', .slice A' n' c']] w fun e w' => e = .returned (.bool (decide (b = b' ∧ xs = ys))) ∧ Below w.heap.size w w' := by
  have hb0 : Below w.heap.size w ((w.alloc (.cells #[.int .i64 b, .slice A n c] 63)).alloc (.cells #[.int .i64 b', .slice A' n' c'] 63)) := by
    repeat (first | exact Below.refl _ _ | refine Below.alloc ?_ (by first | omega | (simp; done) | (simp; omega)) _)
  have hr0 := (hr.below hb0).more hb0.size
  have hr0' := (hr'.below hb0).more hb0.size
  have HC := Lib.hid (sliceEqualDN_any _ _ _ _ c c' _ _ _ hr0 hr0' hn hn')
  have HB0 := Lib.hid hb0
  clear hr hr' hr0 hr0' hb0
  by_cases hbb : b = b'
  · subst hbb
    by_cases hxy : xs = ys
    · rw [decide_eq_true hxy] at HC
      rw [decide_eq_true ⟨rfl, hxy⟩]
      clear hxy
      go_enter Try.func46, Try.ntmps46
      go_wp2_with (go_at_call 63; refine HC.out.mono ?_; rintro e w' ⟨rfl, d, rfl⟩)
      go_ret
      exact ⟨rfl, below_drewN HB0.out _⟩
    · rw [decide_eq_false hxy] at HC
      rw [decide_eq_false (fun h => hxy h.2)]
      clear hxy
      go_enter Try.func46, Try.ntmps46
      go_wp2_with (go_at_call 63; refine HC.out.mono ?_; rintro e w' ⟨rfl, d, rfl⟩)
      go_ret
      exact ⟨rfl, below_drewN HB0.out _⟩
  · rw [decide_eq_false (fun h => hbb h.1)]
    have h1 : (b == b') = false := by simpa using hbb
    clear hbb
    go_enter Try.func46, Try.ntmps46
    go_wp2_with fail
    go_ret
    exact ⟨rfl, HB0.out⟩

theorem sEqualDiagrams_any (A A' : Option Addr) (n n' c c' : Nat) (xs ys : List (Int × Int × Int × Int)) (b b' : Int) (w : World) (hr : Rd w w.heap.size 4 A n (cdn xs)) (hr' : Rd w w.heap.size 4 A' n' (cdn ys)) (hn : n ≤ 1048576) (hn' : n' ≤ 1048576) :
    Calls Try.prog 44 #[.agg #[.int .i64 b, .slice A n c], .agg #[.int .i64 b', .slice A' n' c']] w fun e w' => e = .returned (.bool (decide (b = b' ∧ xs = ys))) ∧ Below w.heap.size w w' := by
  have hb0 : Below w.heap.size w ((w.alloc (.cells #[.int .i64 b, .slice A n c] 63)).alloc (.cells #[.int .i64 b', .slice A' n' c'] 63)) := by
    repeat (first | exact Below.refl _ _ | refine Below.alloc ?_ (by first | omega | (simp; done) | (simp; omega)) _)
  have HB0 := Lib.hid hb0
  have HL := Lib.hid hr.dn_len
  have HL' := Lib.hid hr'.dn_len
  have HR := Lib.hid hr.dn_cells
  have HR' := Lib.hid hr'.dn_cells
  clear hr hr' hb0
  by_cases hbb : b = b'
  · subst hbb
    by_cases hnn : n = n'
    · subst hnn
      go_enter Try.func44, Try.ntmps44
      go_wp2
      go_loopw [5] (fun i wr => ∃ k d : Nat, k ≤ n ∧ i = .int .i64 k ∧ wr = ((w.alloc (.cells #[.int .i64 b, .slice A n c] 63)).alloc (.cells #[.int .i64 b, .slice A' n c'] 63)).drewN d ∧ Samedn xs ys k) (fun i _ => n - (intOf i).toNat)
      case atStart => exact ⟨0, 0, by omega, rfl, rfl, fun i hi => absurd hi (by omega)⟩
      case round =>
        obtain ⟨k, d, hk, rfl, rfl, hsm⟩ := hrel
        by_cases hlt : k < n
        · obtain ⟨b, off, rfl, hb, hcc⟩ := HR.out (by omega)
          obtain ⟨b', off', rfl, hb', hcc'⟩ := HR'.out (by omega)
          have hb1 : b < w.heap.size + 1 := by omega
          have hb1' : b' < w.heap.size + 1 := by omega
          obtain ⟨e0, e1, e2, e3⟩ := hcc k hlt
          obtain ⟨g0, g1, g2, g3⟩ := hcc' k hlt
          clear hcc hcc'
          generalize hs0 : dn0 xs k = p0 at e0
          generalize hs1 : dn1 xs k = p1 at e1
          generalize hs2 : dn2 xs k = p2 at e2
          generalize hs3 : dn3 xs k = p3 at e3
          generalize ht0 : dn0 ys k = q0 at g0
          generalize ht1 : dn1 ys k = q1 at g1
          generalize ht2 : dn2 ys k = q2 at g2
          generalize ht3 : dn3 ys k = q3 at g3
          have HS := Lib.hid (And.intro hs0 (And.intro hs1 (And.intro hs2 hs3)))
          have HT := Lib.hid (And.intro ht0 (And.intro ht1 (And.intro ht2 ht3)))
          clear hs0 hs1 hs2 hs3 ht0 ht1 ht2 ht3
          have hneq : ∀ wx : World, (binOp .neq 79 (.agg #[.int .i64 p0, .int .i64 p1, .int .i64 p2, .int .i64 p3]) (.agg #[.int .i64 q0, .int .i64 q1, .int .i64 q2, .int .i64 q3])).run Try.prog wx = .ok (.bool (!(p0 == q0 && p1 == q1 && p2 == q2 && p3 == q3))) wx := by
            intro wx
            cases h0 : p0 == q0 <;> cases h1 : p1 == q1 <;> cases h2 : p2 == q2 <;> cases h3 : p3 == q3 <;> simp [go_sem, h0, h1, h2, h3]
          by_cases heq : p0 = q0 ∧ p1 = q1 ∧ p2 = q2 ∧ p3 = q3
          · have HE := Lib.hid heq
            have hv : (!(p0 == q0 && p1 == q1 && p2 == q2 && p3 == q3)) = false := by simp [heq]
            rw [hv] at hneq
            clear heq hv
            go_wp2
            go_quiet (fail)
            go_wp2
            go_roundw
            case rel => exact ⟨k + 1, _, by omega, by go_num, rfl, hsm.snoc ⟨by rw [HS.out.1, HT.out.1, HE.out.1], by rw [HS.out.2.1, HT.out.2.1, HE.out.2.1], by rw [HS.out.2.2.1, HT.out.2.2.1, HE.out.2.2.1], by rw [HS.out.2.2.2, HT.out.2.2.2, HE.out.2.2.2]⟩⟩
            case measure => simp [intOf]; omega
          · have HE := Lib.hid heq
            have hv : (!(p0 == q0 && p1 == q1 && p2 == q2 && p3 == q3)) = true := by
              rw [Bool.not_eq_true', Bool.eq_false_iff]
              intro h
              simp only [Bool.and_eq_true, beq_iff_eq] at h
              exact heq ⟨h.1.1.1, h.1.1.2, h.1.2, h.2⟩
            rw [hv] at hneq
            clear heq hv
            go_wp2
            go_quiet (fail)
            go_wp2
            go_ret
            refine ⟨ret_bool ?_, below_drewN (below_drewN HB0.out _) _⟩
            rw [eq_comm, decide_eq_false_iff_not]
            rintro ⟨_, rfl⟩
            exact HE.out ⟨HS.out.1.symm.trans HT.out.1, HS.out.2.1.symm.trans HT.out.2.1, HS.out.2.2.1.symm.trans HT.out.2.2.1, HS.out.2.2.2.symm.trans HT.out.2.2.2⟩
        · have e : k = n := by omega
          have HS := Lib.hid hsm
          clear hsm
          subst e
          go_wp2
          go_ret
          refine ⟨ret_bool ?_, below_drewN HB0.out _⟩
          rw [eq_comm, decide_eq_true_iff]
          have h1 := HL.out
          have h2 := HL'.out
          exact ⟨trivial, Samedn.eq (by rw [h1]; exact HS.out) (by omega)⟩
    · have h1 : ((n : Int) == (n' : Int)) = false := by simp; omega
      have HN := Lib.hid hnn
      clear hnn
      go_enter Try.func44, Try.ntmps44
      go_wp2
      go_ret
      refine ⟨ret_bool ?_, HB0.out⟩
      rw [eq_comm, decide_eq_false_iff_not]
      rintro ⟨_, rfl⟩
      exact HN.out (HL.out.symm.trans HL'.out)
  · rw [decide_eq_false (fun h => hbb h.1)]
    have h1 : (b == b') = false := by simpa using hbb
    have h2 : (b != b') = true := by simpa using hbb
    clear hbb
    go_enter Try.func44, Try.ntmps44
    go_wp2_with fail
    go_ret
    exact ⟨rfl, HB0.out⟩
end Go.Proofs.Ytdjagnlmcponaaa
