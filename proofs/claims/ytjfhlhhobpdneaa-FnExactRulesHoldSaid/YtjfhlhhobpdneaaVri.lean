/- Contract: IsValidRules. -/
import Derived.Test.YtjfhlhhobpdneaaVr
import Derived.Test.YtjfhlhhobpdneaaTest
namespace Go.Proofs.Ytjfhlhhobpdneaa
open Go.RowKit
set_option maxRecDepth 100000 in
set_option maxHeartbeats 8000000 in
theorem IsValidRules_any (A : Option Addr) (n c : Nat) (ls : List (List TeD)) (w : World) (hr : Rls w w.heap.size A n ls) (hn : n ≤ 1048576) (hs : ∀ l ∈ ls, l.length ≤ 1048576) :
    Calls Try.prog 35 #[.agg #[.slice A n c]] w fun e w' => e = .returned (.bool (rsOk ls)) ∧ Below w.heap.size w w' := by
  have HL := Lib.hid hr.len
  have HR := Lib.hid hr.cells
  have HS := Lib.hid hs
  have HK0 := Lib.hid (Blk.new w 62 #[.slice A n c])
  have HB0 := Lib.hid ((Below.refl w.heap.size w).alloc (Nat.le_refl _) (.cells #[.slice A n c] 62))
  clear hr hs
  go_enter Try.func35, Try.ntmps35
  go_wp2
  go_loopw [10] (fun i wr => ∃ k : Nat, k ≤ n ∧ i = .int .i64 k ∧ Below w.heap.size w wr ∧ Blk wr w.heap.size 62 #[.slice A n c] ∧ AllTo (fun j => rOk (ls.getD j [])) k) (fun i _ => n - (intOf i).toNat)
  case atStart => exact ⟨0, by omega, rfl, HB0.out, HK0.out, fun i hi => absurd hi (by omega)⟩
  case round =>
    obtain ⟨wo, hwo⟩ : ∃ wo, wo = wr := ⟨_, rfl⟩
    subst hwo
    obtain ⟨k, hk, rfl, hbe, hK, hall⟩ := hrel
    have HBE := Lib.hid hbe
    have HK := Lib.hid hK
    have HA := Lib.hid hall
    have k0 := hK.cell 0
    simp only [List.getElem?_toArray, List.getElem?_cons_zero] at k0
    clear hK hall
    by_cases hlt : k < n
    · obtain ⟨b, off, rfl, hb, hcc⟩ := HR.out (by omega)
      obtain ⟨A1, n1, c1, e1, r1⟩ := hcc k hlt
      have e0 := (hbe.cell (p := ⟨b, off + k, none⟩) hb).trans e1
      have s1 := (r1.below hbe).more hbe.size
      have hn1 : n1 ≤ 1048576 := by
        have h1 := r1.te_len
        have h2 := len_getD HS.out (by rw [HL.out]; exact hlt : k < ls.length)
        omega
      have hkl : Hid (k < ls.length) := by
        unfold Hid
        rw [HL.out]
        exact hlt
      clear hcc e1 r1 hbe
      generalize hx : ls.getD k [] = l at s1
      have HX := Lib.hid hx
      have HL1 := Lib.hid s1.te_len
      have HRC := Lib.hid s1.te_cells
      clear hx s1
      cases hz : inB (n1 : Int) 1 3
      · have HZ := Lib.hid hz
        clear hz
        go_wp2_with (go_at_call 73; refine (within_any _ _ _ _).mono ?_; rw [HZ.out]; rintro e w' ⟨rfl, rfl⟩)
        go_ret
        refine ⟨ret_bool (Eq.symm ?_), ?_⟩
        · unfold rsOk
          rw [not_all (k := k) hkl.out (by rw [HX.out]; unfold rOk; rw [HL1.out, HZ.out, Bool.and_false])]
          rfl
        · repeat (first | exact HBE.out | refine below_drewN ?_ _ | refine Below.alloc ?_ (by first | exact HBE.out.size | (have := HBE.out.size; simp; omega)) _ | refine Below.setCell ?_ HBE.out.size _)
      have HZ := Lib.hid hz
      clear hz
      go_wp2_with (go_at_call 73; refine (within_any _ _ _ _).mono ?_; rw [HZ.out]; rintro e w' ⟨rfl, rfl⟩)
      go_loopw [22] (fun i wr' => ∃ j : Nat, j ≤ n1 ∧ i = .int .i64 j ∧ Below wo.heap.size wo wr' ∧ Blk wr' wo.heap.size 30 #[.slice A1 n1 c1] ∧ AllTo (tOk l) j) (fun i _ => n1 - (intOf i).toNat)
      case atStart =>
        refine ⟨0, by omega, rfl, ?_, ?_, fun i hi => absurd hi (by omega)⟩
        · repeat (first | exact Below.refl _ _ | refine below_drewN ?_ _ | refine Below.alloc ?_ (Nat.le_refl _) _ | refine Below.setCell ?_ (Nat.le_refl _) _)
        · first | exact Blk.new _ _ _ | trace_state
      case round =>
        obtain ⟨j, hj, rfl, hbi, hJ, hto⟩ := hrel
        have HBI := Lib.hid hbi
        have HJ := Lib.hid hJ
        have HTO := Lib.hid hto
        have j0 := hJ.cell 0
        simp only [List.getElem?_toArray, List.getElem?_cons_zero] at j0
        have hjs : wo.heap.size < wr.heap.size := hJ.lt
        clear hJ hto
        by_cases hjt : j < n1
        · obtain ⟨b1, off1, rfl, hb1, hcc1⟩ := HRC.out (by omega)
          obtain ⟨f0', f1', f2'⟩ := hcc1 j hjt
          have f0 := (hbi.cell (p := ⟨b1, off1 + j * 3, none⟩) hb1).trans f0'
          have f1 := (hbi.cell (p := ⟨b1, off1 + j * 3 + 1, none⟩) hb1).trans f1'
          have f2 := (hbi.cell (p := ⟨b1, off1 + j * 3 + 2, none⟩) hb1).trans f2'
          have HCC := Lib.hid hcc1
          clear hcc1 f0' f1' f2' hbi
          generalize te2 l j = p2 at f2
          generalize hp0 : te0 l j = p0 at f0
          generalize hp1 : te1 l j = p1 at f1
          have HP0 := Lib.hid hp0
          have HP1 := Lib.hid hp1
          clear hp0 hp1
          cases ha : inB p0 0 5
          · have HVA := Lib.hid ha
            clear ha
            have HA : Hid (∀ W : World, Calls Try.prog 74 #[.int .i64 p0] W fun e w' => e = .returned (.bool false) ∧ W = w') := fun W => HVA.out ▸ isFeature_any p0 W
            have HB : Hid (∀ _ : World, True) := fun _ => trivial
          -- a
            go_wp2
            go_quiet ((first | (go_at_call 74; exact quiet_l (HA.out _)) | (go_at_call 75; exact quiet_l (HB.out _))))
            go_wp2
            go_ret
            refine ⟨ret_bool (Eq.symm ?_), ?_⟩
            · unfold rsOk
              rw [not_all (k := k) hkl.out (by rw [HX.out]; unfold rOk; rw [not_all (k := j) (by rw [HL1.out]; exact hjt) (tOk_a (by rw [HP0.out]; exact HVA.out))]; rfl)]
              rfl
            · refine HBE.out.trans (Below.mono ?_ HBE.out.size)
              repeat (first | exact HBI.out | refine below_drewN ?_ _ | refine Below.alloc ?_ (by first | exact HBI.out.size | (have := HBI.out.size; simp; omega)) _ | refine Below.setCell ?_ HBI.out.size _)
          · have HVA := Lib.hid ha
            clear ha
            have HA : Hid (∀ W : World, Calls Try.prog 74 #[.int .i64 p0] W fun e w' => e = .returned (.bool true) ∧ W = w') := fun W => HVA.out ▸ isFeature_any p0 W
            cases hbv : inB p1 1 1000
            · have HVB := Lib.hid hbv
              clear hbv
              have HB : Hid (∀ W : World, Calls Try.prog 75 #[.int .i64 p1] W fun e w' => e = .returned (.bool false) ∧ W = w') := fun W => HVB.out ▸ isThreshold_any p1 W
              go_wp2
              go_quiet ((first | (go_at_call 74; exact quiet_l (HA.out _)) | (go_at_call 75; exact quiet_l (HB.out _))))
              go_wp2
              go_ret
              refine ⟨ret_bool (Eq.symm ?_), ?_⟩
              · unfold rsOk
                rw [not_all (k := k) hkl.out (by rw [HX.out]; unfold rOk; rw [not_all (k := j) (by rw [HL1.out]; exact hjt) (tOk_b (by rw [HP1.out]; exact HVB.out))]; rfl)]
                rfl
              · refine HBE.out.trans (Below.mono ?_ HBE.out.size)
                repeat (first | exact HBI.out | refine below_drewN ?_ _ | refine Below.alloc ?_ (by first | exact HBI.out.size | (have := HBI.out.size; simp; omega)) _ | refine Below.setCell ?_ HBI.out.size _)
            · have HVB := Lib.hid hbv
              clear hbv
              have HB : Hid (∀ W : World, Calls Try.prog 75 #[.int .i64 p1] W fun e w' => e = .returned (.bool true) ∧ W = w') := fun W => HVB.out ▸ isThreshold_any p1 W
              rcases Nat.eq_zero_or_pos j with h0 | h0
              · subst h0
                have hg : decide ((0 : Int) < ((0 : Nat) : Int)) = false := by decide
                simp only [Nat.zero_mul, Nat.add_zero] at f0 f1 f2
                go_wp2
                go_quiet ((first | (go_at_call 74; exact quiet_l (HA.out _)) | (go_at_call 75; exact quiet_l (HB.out _))))
                go_wp2
                go_roundw
                case rel =>
                  refine ⟨0 + 1, by omega, by go_num, ?_, ?_, HTO.out.snoc (tOk_0 (by rw [HP0.out]; exact HVA.out) (by rw [HP1.out]; exact HVB.out))⟩
                  · repeat (first | exact HBI.out | refine below_drewN ?_ _ | refine Below.alloc ?_ (by first | exact HBI.out.size | (have := HBI.out.size; simp; omega)) _ | refine Below.setCell ?_ HBI.out.size _)
                  · repeat (first | (with_reducible exact HJ.out) | refine Blk.far ?_ (by simp; try omega) _ | refine Blk.alloc ?_ _ | refine Blk.drewN ?_ _)
                case measure => simp [intOf]; omega
              · obtain ⟨i, rfl⟩ : ∃ i, j = i + 1 := ⟨j - 1, by omega⟩
                have hbw : b1 < wr.heap.size := Nat.lt_of_lt_of_le hb1 HBI.out.size
                have g0 := (HBI.out.cell (p := ⟨b1, off1 + i * 3, none⟩) hb1).trans (HCC.out i (by omega)).1
                generalize hpq : te0 l i = pp at g0
                have HPP := Lib.hid hpq
                clear hpq
                have hg : (0 : Int) < (i : Int) + 1 := by omega
                have hi1 : i < n1 := by omega
                have hwi : IntKind.i64.wrap (i : Int) = i := IntWalk.i64_in _ (by omega)
                by_cases hle : p0 ≤ pp
                · have hd : decide (p0 ≤ pp) = true := decide_eq_true hle
                  have HLE := Lib.hid hle
                  clear hle
                  go_wp2
                  go_quiet ((first | (go_at_call 74; exact quiet_l (HA.out _)) | (go_at_call 75; exact quiet_l (HB.out _))))
                  go_wp2
                  go_ret
                  refine ⟨ret_bool (Eq.symm ?_), ?_⟩
                  · unfold rsOk
                    rw [not_all (k := k) hkl.out (by rw [HX.out]; unfold rOk; rw [not_all (k := i + 1) (by rw [HL1.out]; exact hjt) (tOk_c (by rw [HP0.out, HPP.out]; exact HLE.out))]; rfl)]
                    rfl
                  · refine HBE.out.trans (Below.mono ?_ HBE.out.size)
                    repeat (first | exact HBI.out | refine below_drewN ?_ _ | refine Below.alloc ?_ (by first | exact HBI.out.size | (have := HBI.out.size; simp; omega)) _ | refine Below.setCell ?_ HBI.out.size _)
                · have hd : decide (p0 ≤ pp) = false := decide_eq_false hle
                  have HLE := Lib.hid hle
                  clear hle
                  go_wp2
                  go_quiet ((first | (go_at_call 74; exact quiet_l (HA.out _)) | (go_at_call 75; exact quiet_l (HB.out _))))
                  go_wp2
                  go_roundw
                  case rel =>
                    refine ⟨i + 1 + 1, by omega, by go_num, ?_, ?_, HTO.out.snoc (tOk_s (by rw [HP0.out]; exact HVA.out) (by rw [HP1.out]; exact HVB.out) (by rw [HP0.out, HPP.out]; have := HLE.out; omega))⟩
                    · repeat (first | exact HBI.out | refine below_drewN ?_ _ | refine Below.alloc ?_ (by first | exact HBI.out.size | (have := HBI.out.size; simp; omega)) _ | refine Below.setCell ?_ HBI.out.size _)
                    · repeat (first | (with_reducible exact HJ.out) | refine Blk.far ?_ (by simp; try omega) _ | refine Blk.alloc ?_ _ | refine Blk.drewN ?_ _)
                  case measure => simp [intOf]; omega
        · have e : j = n1 := by omega
          go_wp2
          go_roundw
          case rel => exact ⟨k + 1, by omega, by go_num, HBE.out.trans (HBI.out.mono HBE.out.size), HK.out.below HBI.out HK.out.lt, HA.out.snoc (by rw [HX.out]; unfold rOk; rw [HL1.out, HZ.out, ← e, HTO.out.all]; rfl)⟩
          case measure => simp [intOf]; omega
    · have e : k = n := by omega
      have HV : Hid (rsOk ls = inB (n : Int) 1 3) := by
        unfold Hid rsOk
        rw [HL.out, AllTo.all (by rw [← e]; exact HA.out)]
        rfl
      clear hbe
      go_wp2_with (go_at_call 73; refine (within_any _ _ _ _).mono ?_; rw [← HV.out]; rintro e w' ⟨rfl, rfl⟩)
      go_ret
      exact ⟨rfl, HBE.out⟩
end Go.Proofs.Ytjfhlhhobpdneaa
