/- Contracts: IsValidRules (both). -/
import Derived.Test.YtjfhlhhobpdneaaRuleEq
import Derived.Test.YtjfhlhhobpdneaaIn
import Derived.Test.YtjfhlhhobpdneaaThr
namespace Go.Proofs.Ytjfhlhhobpdneaa
open Go.RowKit

def AllTo (p : Nat → Bool) (k : Nat) : Prop := ∀ i, i < k → p i = true
theorem AllTo.snoc {p : Nat → Bool} {k : Nat} (h : AllTo p k) (h' : p k = true) : AllTo p (k + 1) := fun i hi => by
  by_cases e : i = k
  · rw [e]
    exact h'
  · exact h i (by omega)
theorem AllTo.all {p : Nat → Bool} {n : Nat} (h : AllTo p n) : (List.range n).all p = true := List.all_eq_true.2 fun i hi => h i (List.mem_range.1 hi)
theorem not_all {p : Nat → Bool} {n k : Nat} (hk : k < n) (h : p k = false) : (List.range n).all p = false := by
  cases hx : (List.range n).all p
  · rfl
  · rw [List.all_eq_true] at hx
    have := hx k (List.mem_range.2 hk)
    rw [h] at this
    cases this
def tOk (l : List TeD) (k : Nat) : Bool := inB (te0 l k) 0 5 && inB (te1 l k) 1 1000 && !(decide (0 < k) && decide (te0 l k ≤ te0 l (k - 1)))
def rOk (l : List TeD) : Bool := (List.range l.length).all (tOk l) && inB l.length 1 3
def rsOk (ls : List (List TeD)) : Bool := (List.range ls.length).all (fun k => rOk (ls.getD k [])) && inB ls.length 1 3
theorem tOk_a {l : List TeD} {k : Nat} (h : inB (te0 l k) 0 5 = false) : tOk l k = false := by unfold tOk; rw [h]; rfl
theorem tOk_b {l : List TeD} {k : Nat} (h : inB (te1 l k) 1 1000 = false) : tOk l k = false := by unfold tOk; rw [h, Bool.and_false]; rfl
theorem tOk_c {l : List TeD} {j : Nat} (h : te0 l (j + 1) ≤ te0 l j) : tOk l (j + 1) = false := by unfold tOk; rw [Nat.add_sub_cancel, decide_eq_true h]; simp
theorem tOk_0 {l : List TeD} (h : inB (te0 l 0) 0 5 = true) (h' : inB (te1 l 0) 1 1000 = true) : tOk l 0 = true := by unfold tOk; rw [h, h']; rfl
theorem tOk_s {l : List TeD} {j : Nat} (h : inB (te0 l (j + 1)) 0 5 = true) (h' : inB (te1 l (j + 1)) 1 1000 = true) (h2 : ¬te0 l (j + 1) ≤ te0 l j) : tOk l (j + 1) = true := by
  unfold tOk
  rw [h, h', Nat.add_sub_cancel, decide_eq_false h2]
  simp
set_option maxRecDepth 100000 in
set_option maxHeartbeats 8000000 in
theorem sIsValidRules_any (A : Option Addr) (n c : Nat) (ls : List (List TeD)) (w : World) (hr : Rls w w.heap.size A n ls) (hn : n ≤ 1048576) (hs : ∀ l ∈ ls, l.length ≤ 1048576) :
    Calls Try.prog 33 #[.agg #[.slice A n c]] w fun e w' => e = .returned (.bool (rsOk ls)) ∧ Below w.heap.size w w' := by
  have HL := Lib.hid hr.len
  have HR := Lib.hid hr.cells
  have HS := Lib.hid hs
  have HK0 := Lib.hid (Blk.new w 62 #[.slice A n c])
  have HB0 := Lib.hid ((Below.refl w.heap.size w).alloc (Nat.le_refl _) (.cells #[.slice A n c] 62))
  clear hr hs
  go_enter Try.func33, Try.ntmps33
  go_wp2
  go_loopw [3] (fun i wr => ∃ k : Nat, k ≤ n ∧ i = .int .i64 k ∧ Below w.heap.size w wr ∧ Blk wr w.heap.size 62 #[.slice A n c] ∧ AllTo (fun j => rOk (ls.getD j [])) k) (fun i _ => n - (intOf i).toNat)
  case atStart => exact ⟨0, by omega, rfl, HB0.out, HK0.out, fun i hi => absurd hi (by omega)⟩
  case round =>
    obtain ⟨wo, hwo⟩ : ∃ wo, wo = wr := ⟨_, rfl⟩
    subst hwo
    obtain ⟨k, hk, rfl, hbe, hK, hall⟩ := hrel
    have HBE := Lib.hid hbe
    have HK := Lib.hid hK
    have HA := Lib.hid hall
    have k0 := hK.cell 0
    simp only [List.getElem?_toArray, List.getElem?_cons_zero] at k0
    clear hK hall
    by_cases hlt : k < n
    · obtain ⟨b, off, rfl, hb, hcc⟩ := HR.out (by omega)
      obtain ⟨A1, n1, c1, e1, r1⟩ := hcc k hlt
      have e0 := (hbe.cell (p := ⟨b, off + k, none⟩) hb).trans e1
      have s1 := (r1.below hbe).more hbe.size
      have hn1 : n1 ≤ 1048576 := by
        have h1 := r1.te_len
        have h2 := len_getD HS.out (by rw [HL.out]; exact hlt : k < ls.length)
        omega
      have hkl : Hid (k < ls.length) := by
        unfold Hid
        rw [HL.out]
        exact hlt
      clear hcc e1 r1 hbe
      generalize hx : ls.getD k [] = l at s1
      have HX := Lib.hid hx
      have HL1 := Lib.hid s1.te_len
      have HRC := Lib.hid s1.te_cells
      clear hx s1
      go_wp2
      go_loopw [5] (fun i wr' => ∃ j d : Nat, j ≤ n1 ∧ i = .int .i64 j ∧ wr' = wo.drewN d ∧ AllTo (tOk l) j) (fun i _ => n1 - (intOf i).toNat)
      case atStart => exact ⟨0, 0, by omega, rfl, rfl, fun i hi => absurd hi (by omega)⟩
      case round =>
        obtain ⟨j, d, hj, rfl, hw, hto⟩ := hrel
        have HTO := Lib.hid hto
        have hcell : ∀ q, wr.cell? q = wo.cell? q := fun q => by rw [hw]; first | rfl | simp
        have HC := Lib.hid hcell
        have HW := Lib.hid hw
        clear hto hw hcell
        have k2 := (HC.out ⟨w.heap.size, 0, none⟩).trans k0
        by_cases hjt : j < n1
        · obtain ⟨b1, off1, rfl, hb1, hcc1⟩ := HRC.out (by omega)
          obtain ⟨f0', f1', _⟩ := hcc1 j hjt
          have f0 := (HC.out _).trans f0'
          have f1 := (HC.out _).trans f1'
          have HCC := Lib.hid hcc1
          clear hcc1 f0' f1'
          generalize hp0 : te0 l j = p0 at f0
          generalize hp1 : te1 l j = p1 at f1
          have HP0 := Lib.hid hp0
          have HP1 := Lib.hid hp1
          clear hp0 hp1
          cases ha : inB p0 0 5
          · have HVA := Lib.hid ha
            clear ha
            have HA : Hid (∀ W : World, Calls Try.prog 70 #[.int .i64 p0, .int .i64 0, .int .i64 5] W fun e w' => e = .returned (.bool false) ∧ W = w') := fun W => HVA.out ▸ sIn_any p0 0 5 W
            have HB : Hid (∀ _ : World, True) := fun _ => trivial
          -- a
            go_wp2
            go_quiet ((go_at_call 70; (first | (with_reducible exact quiet_l (HA.out _)) | (with_reducible exact quiet_l (HB.out _)))))
            go_wp2
            go_ret
            refine ⟨ret_bool (Eq.symm ?_), ?_⟩
            · unfold rsOk
              rw [not_all (k := k) hkl.out (by rw [HX.out]; unfold rOk; rw [not_all (k := j) (by rw [HL1.out]; exact hjt) (tOk_a (by rw [HP0.out]; exact HVA.out))]; rfl)]
              rfl
            · exact below_drewN (by rw [HW.out]; exact below_drewN HBE.out _) _
          · have HVA := Lib.hid ha
            clear ha
            have HA : Hid (∀ W : World, Calls Try.prog 70 #[.int .i64 p0, .int .i64 0, .int .i64 5] W fun e w' => e = .returned (.bool true) ∧ W = w') := fun W => HVA.out ▸ sIn_any p0 0 5 W
            cases hbv : inB p1 1 1000
            · have HVB := Lib.hid hbv
              clear hbv
              have HB : Hid (∀ W : World, Calls Try.prog 70 #[.int .i64 p1, .int .i64 1, .int .i64 1000] W fun e w' => e = .returned (.bool false) ∧ W = w') := fun W => HVB.out ▸ sIn_any p1 1 1000 W
              go_wp2
              go_quiet ((go_at_call 70; (first | (with_reducible exact quiet_l (HA.out _)) | (with_reducible exact quiet_l (HB.out _)))))
              go_wp2
              go_ret
              refine ⟨ret_bool (Eq.symm ?_), ?_⟩
              · unfold rsOk
                rw [not_all (k := k) hkl.out (by rw [HX.out]; unfold rOk; rw [not_all (k := j) (by rw [HL1.out]; exact hjt) (tOk_b (by rw [HP1.out]; exact HVB.out))]; rfl)]
                rfl
              · exact below_drewN (by rw [HW.out]; exact below_drewN HBE.out _) _
            · have HVB := Lib.hid hbv
              clear hbv
              have HB : Hid (∀ W : World, Calls Try.prog 70 #[.int .i64 p1, .int .i64 1, .int .i64 1000] W fun e w' => e = .returned (.bool true) ∧ W = w') := fun W => HVB.out ▸ sIn_any p1 1 1000 W
              rcases Nat.eq_zero_or_pos j with h0 | h0
              · subst h0
                have hg : decide ((0 : Int) < ((0 : Nat) : Int)) = false := by decide
                simp only [Nat.zero_mul, Nat.add_zero] at f0 f1
                go_wp2
                go_quiet ((go_at_call 70; (first | (with_reducible exact quiet_l (HA.out _)) | (with_reducible exact quiet_l (HB.out _)))))
                go_wp2
                go_roundw
                case rel => exact ⟨0 + 1, _, by omega, by go_num, by rw [HW.out]; exact World.drewN_drewN _ _ _, HTO.out.snoc (tOk_0 (by rw [HP0.out]; exact HVA.out) (by rw [HP1.out]; exact HVB.out))⟩
                case measure => simp [intOf]; omega
              · obtain ⟨i, rfl⟩ : ∃ i, j = i + 1 := ⟨j - 1, by omega⟩
                have g0 := (HC.out _).trans (HCC.out i (by omega)).1
                generalize hpq : te0 l i = pp at g0
                have HPP := Lib.hid hpq
                clear hpq
                have hg : (0 : Int) < (i : Int) + 1 := by omega
                have hi1 : i < n1 := by omega
                have hwi : IntKind.i64.wrap (i : Int) = i := IntWalk.i64_in _ (by omega)
                by_cases hle : p0 ≤ pp
                · have hd : decide (p0 ≤ pp) = true := decide_eq_true hle
                  have HLE := Lib.hid hle
                  clear hle
                  go_wp2
                  go_quiet ((go_at_call 70; (first | (with_reducible exact quiet_l (HA.out _)) | (with_reducible exact quiet_l (HB.out _)))))
                  go_wp2
                  go_ret
                  refine ⟨ret_bool (Eq.symm ?_), ?_⟩
                  · unfold rsOk
                    rw [not_all (k := k) hkl.out (by rw [HX.out]; unfold rOk; rw [not_all (k := i + 1) (by rw [HL1.out]; exact hjt) (tOk_c (by rw [HP0.out, HPP.out]; exact HLE.out))]; rfl)]
                    rfl
                  · exact below_drewN (by rw [HW.out]; exact below_drewN HBE.out _) _
                · have hd : decide (p0 ≤ pp) = false := decide_eq_false hle
                  have HLE := Lib.hid hle
                  clear hle
                  go_wp2
                  go_quiet ((go_at_call 70; (first | (with_reducible exact quiet_l (HA.out _)) | (with_reducible exact quiet_l (HB.out _)))))
                  go_wp2
                  go_roundw
                  case rel => exact ⟨i + 1 + 1, _, by omega, by go_num, by rw [HW.out]; exact World.drewN_drewN _ _ _, HTO.out.snoc (tOk_s (by rw [HP0.out]; exact HVA.out) (by rw [HP1.out]; exact HVB.out) (by rw [HP0.out, HPP.out]; have := HLE.out; omega))⟩
                  case measure => simp [intOf]; omega
        · have e : j = n1 := by omega
          cases hz : inB (n1 : Int) 1 3
          · have HZ := Lib.hid hz
            clear hz
            go_wp2_with (go_at_call 70; refine (sIn_any _ _ _ _).mono ?_; rw [HZ.out]; rintro e w' ⟨rfl, rfl⟩)
            go_ret
            refine ⟨ret_bool (Eq.symm ?_), HW.out ▸ below_drewN HBE.out _⟩
            unfold rsOk
            rw [not_all (k := k) hkl.out (by rw [HX.out]; unfold rOk; rw [HL1.out, HZ.out, Bool.and_false])]
            rfl
          · have HZ := Lib.hid hz
            clear hz
            go_wp2_with (go_at_call 70; refine (sIn_any _ _ _ _).mono ?_; rw [HZ.out]; rintro e w' ⟨rfl, rfl⟩)
            go_roundw
            case rel => exact ⟨k + 1, by omega, by go_num, HW.out ▸ below_drewN HBE.out _, HW.out ▸ HK.out.drewN _, HA.out.snoc (by rw [HX.out]; unfold rOk; rw [HL1.out, HZ.out, ← e, HTO.out.all]; rfl)⟩
            case measure => simp [intOf]; omega
    · have e : k = n := by omega
      have HV : Hid (rsOk ls = inB (n : Int) 1 3) := by
        unfold Hid rsOk
        rw [HL.out, AllTo.all (by rw [← e]; exact HA.out)]
        rfl
      clear hbe
      go_wp2_with (go_at_call 70; refine (sIn_any _ _ _ _).mono ?_; rw [← HV.out]; rintro e w' ⟨rfl, rfl⟩)
      go_ret
      exact ⟨rfl, HBE.out⟩
end Go.Proofs.Ytjfhlhhobpdneaa
