/- Contracts: RuleHolds (both). -/
import Derived.Test.YtjfhlhhobpdneaaTe
import Derived.Test.YtjfhlhhobpdneaaTest
namespace Go.Proofs.Ytjfhlhhobpdneaa
open Go.RowKit

abbrev TeT := Int × Int × Bool
def tB (l : List TeT) (zs : List Int) (k : Nat) : Bool := tstB (te0 l k) (te1 l k) (te2 l k) zs
def HoldTo (l : List TeT) (zs : List Int) (k : Nat) : Prop := ∀ i, i < k → tB l zs i = true
theorem HoldTo.snoc {l : List TeT} {zs : List Int} {k : Nat} (h : HoldTo l zs k) (h' : tB l zs k = true) : HoldTo l zs (k + 1) := fun i hi => by
  by_cases e : i = k
  · rw [e]
    exact h'
  · exact h i (by omega)
def rulB (l : List TeT) (zs : List Int) : Bool := isFV zs && l.all fun t => tstB t.1 t.2.1 t.2.2 zs
theorem tB_get {l : List TeT} {zs : List Int} {k : Nat} (hk : k < l.length) : tB l zs k = tstB l[k].1 l[k].2.1 l[k].2.2 zs := by
  simp [tB, te0, te1, te2, List.getElem?_eq_getElem hk]
theorem HoldTo.all {l : List TeT} {zs : List Int} (h : HoldTo l zs l.length) : (l.all fun t => tstB t.1 t.2.1 t.2.2 zs) = true := by
  rw [List.all_eq_true]
  intro x hx
  obtain ⟨i, hi, rfl⟩ := List.getElem_of_mem hx
  have := h i hi
  rwa [tB_get hi] at this
theorem all_no {l : List TeT} {zs : List Int} {k : Nat} (hk : k < l.length) (h : tB l zs k = false) : (l.all fun t => tstB t.1 t.2.1 t.2.2 zs) = false := by
  rw [← Bool.not_eq_true]
  intro ha
  rw [List.all_eq_true] at ha
  have h2 := ha l[k] (List.getElem_mem hk)
  rw [tB_get hk] at h
  rw [h] at h2
  cases h2
set_option maxHeartbeats 600000 in
theorem sRuleHolds_any (A A' : Option Addr) (n n' c c' : Nat) (l : List TeT) (zs : List Int) (w : World) (hr : Rd w w.heap.size 3 A n (cte l)) (hr' : Rd w w.heap.size 1 A' n' (ci zs)) (hn : n ≤ 1048576) (hn' : n' ≤ 1048576) :
    Calls Try.prog 16 #[.agg #[.slice A n c], .slice A' n' c'] w fun e w' => e = .returned (.bool (rulB l zs)) ∧ Below w.heap.size w w' := by
  have HL := Lib.hid hr.te_len
  have HR := Lib.hid hr.te_cells
  have HR' := Lib.hid hr'
  have HK0 := Lib.hid (Blk.new w 30 #[.slice A n c])
  have HB0 := Lib.hid ((Below.refl w.heap.size w).alloc (Nat.le_refl _) (.cells #[.slice A n c] 30))
  clear hr hr'
  go_enter Try.func16, Try.ntmps16
  go_wp2
  go_loopw [5] (fun i wr => ∃ k : Nat, k ≤ n ∧ i = .int .i64 k ∧ Below w.heap.size w wr ∧ Blk wr w.heap.size 30 #[.slice A n c] ∧ HoldTo l zs k) (fun i _ => n - (intOf i).toNat)
  case atStart => exact ⟨0, by omega, rfl, HB0.out, HK0.out, fun i hi => absurd hi (by omega)⟩
  case round =>
    obtain ⟨k, hk, rfl, hbe, hK, hall⟩ := hrel
    have HBE := Lib.hid hbe
    have HK := Lib.hid hK
    have k0 := hK.cell 0
    simp only [List.getElem?_toArray, List.getElem?_cons_zero] at k0
    have r1 := (HR'.out.below hbe).more hbe.size
    by_cases hlt : k < n
    · obtain ⟨b, off, rfl, hb, hcc⟩ := HR.out (by omega)
      obtain ⟨e0, e1, e2⟩ := hcc k hlt
      have f0 := (hbe.cell (p := ⟨b, off + k * 3, none⟩) hb).trans e0
      have f1 := (hbe.cell (p := ⟨b, off + k * 3 + 1, none⟩) hb).trans e1
      have f2 := (hbe.cell (p := ⟨b, off + k * 3 + 2, none⟩) hb).trans e2
      clear hcc e0 e1 e2 hbe hK
      have HT := Lib.hid (show tB l zs k = tstB (te0 l k) (te1 l k) (te2 l k) zs from rfl)
      generalize te0 l k = p0 at f0 HT
      generalize te1 l k = p1 at f1 HT
      generalize te2 l k = p2 at f2 HT
      cases hh : tstB p0 p1 p2 zs
      · have HH := Lib.hid hh
        clear hh
        go_wp2_with (go_at_call 62; refine (sTestHolds_any _ _ _ _ _ _ zs _ r1 hn').mono ?_; rw [HH.out]; rintro e w1 ⟨rfl, hb1⟩)
        go_ret
        refine ⟨ret_bool ?_, HBE.out.trans (hb1.mono HBE.out.size)⟩
        unfold rulB
        rw [all_no (k := k) (by rw [HL.out]; exact hlt) (by rw [HT.out, HH.out]), Bool.and_false]
      · have HH := Lib.hid hh
        clear hh
        go_wp2_with (go_at_call 62; refine (sTestHolds_any _ _ _ _ _ _ zs _ r1 hn').mono ?_; rw [HH.out]; rintro e w1 ⟨rfl, hb1⟩)
        go_roundw
        case rel => exact ⟨k + 1, by omega, by go_num, HBE.out.trans (hb1.mono HBE.out.size), HK.out.below hb1 HK.out.lt, hall.snoc (by rw [HT.out, HH.out])⟩
        case measure => simp [intOf]; omega
    · have HA := Lib.hid hall
      have e : k = n := by omega
      clear hall hK hbe
      have HV : Hid (rulB l zs = isFV zs) := by
        unfold Hid rulB
        rw [HoldTo.all (by rw [HL.out, ← e]; exact HA.out), Bool.and_true]
      go_wp2_with (go_at_call 63; refine (sIsFeatureVector_any _ _ _ zs _ r1 hn').mono ?_; rw [← HV.out]; rintro e w1 ⟨rfl, rfl⟩)
      go_ret
      exact ⟨rfl, HBE.out⟩

/-- the closure: it has captured f, in block B -/
theorem ruleClosure_any (f t : Int) (b : Bool) (Bf : Nat) (A' : Option Addr) (n' c' : Nat) (zs : List Int) (w : World) (hc : w.cell? ⟨Bf, 0, none⟩ = some (.slice A' n' c')) (hBf : Bf < w.heap.size) (hr' : Rd w w.heap.size 1 A' n' (ci zs)) (hn' : n' ≤ 1048576) :
    Calls Try.prog 67 #[.agg #[.int .i64 f, .int .i64 t, .bool b], .pointer (some ⟨Bf, 0, none⟩)] w fun e w' => e = .returned (.bool (!tstB f t b zs)) ∧ Below w.heap.size w w' := by
  have HB0 := Lib.hid ((Below.refl w.heap.size w).alloc (Nat.le_refl _) (.cells #[.int .i64 f, .int .i64 t, .bool b] 85))
  have r1 := (hr'.below HB0.out).more HB0.out.size
  go_enter Try.func67, Try.ntmps67
  go_wp2_with (go_at_call 68; refine (TestHolds_any _ _ _ _ _ _ zs _ r1 hn').mono ?_; rintro e w1 ⟨rfl, hb1⟩)
  go_ret
  exact ⟨rfl, HB0.out.trans (hb1.mono HB0.out.size)⟩
def idxNo (l : List TeT) (zs : List Int) : Int := if (l.all fun t => tstB t.1 t.2.1 t.2.2 zs) then -1 else 0
theorem IndexFuncTest_any (Bf : Nat) (A A' : Option Addr) (n n' c c' : Nat) (l : List TeT) (zs : List Int) (w : World) (hr : Rd w w.heap.size 3 A n (cte l)) (hc : w.cell? ⟨Bf, 0, none⟩ = some (.slice A' n' c')) (hBf : Bf < w.heap.size) (hr' : Rd w w.heap.size 1 A' n' (ci zs)) (hn : n ≤ 1048576) (hn' : n' ≤ 1048576) :
    Calls Try.prog 111 #[.slice A n c, .func (.func 67) #[] #[.pointer (some ⟨Bf, 0, none⟩)]] w fun e w' => (∃ r : Int, e = .returned (.int .i64 r) ∧ decide (0 ≤ r) = !(l.all fun t => tstB t.1 t.2.1 t.2.2 zs)) ∧ Below w.heap.size w w' := by
  have HL := Lib.hid hr.te_len
  have HR := Lib.hid hr.te_cells
  have HR' := Lib.hid hr'
  have HC := Lib.hid hc
  clear hr hr' hc
  go_enter Try.func111, Try.ntmps111
  go_wp2
  go_loopw [8] (fun i wr => ∃ k : Nat, k ≤ n ∧ i = .int .i64 k ∧ Below w.heap.size w wr ∧ HoldTo l zs k) (fun i _ => n - (intOf i).toNat)
  case atStart => exact ⟨0, by omega, rfl, Below.refl _ _, fun i hi => absurd hi (by omega)⟩
  case round =>
    obtain ⟨k, hk, rfl, hbe, hall⟩ := hrel
    have HBE := Lib.hid hbe
    have k0 := (hbe.cell (p := ⟨Bf, 0, none⟩) hBf).trans HC.out
    have r1 := (HR'.out.below hbe).more hbe.size
    have hBr : Bf < wr.heap.size := Nat.lt_of_lt_of_le hBf hbe.size
    by_cases hlt : k < n
    · obtain ⟨b, off, rfl, hb, hcc⟩ := HR.out (by omega)
      obtain ⟨e0, e1, e2⟩ := hcc k hlt
      have f0 := (hbe.cell (p := ⟨b, off + k * 3, none⟩) hb).trans e0
      have f1 := (hbe.cell (p := ⟨b, off + k * 3 + 1, none⟩) hb).trans e1
      have f2 := (hbe.cell (p := ⟨b, off + k * 3 + 2, none⟩) hb).trans e2
      clear hcc e0 e1 e2 hbe
      have HT := Lib.hid (show tB l zs k = tstB (te0 l k) (te1 l k) (te2 l k) zs from rfl)
      generalize te0 l k = p0 at f0 HT
      generalize te1 l k = p1 at f1 HT
      generalize te2 l k = p2 at f2 HT
      cases hh : tstB p0 p1 p2 zs
      · have HH := Lib.hid hh
        clear hh
        go_wp2_with (go_at_call 67; refine (ruleClosure_any _ _ _ _ _ _ _ zs _ k0 hBr r1 hn').mono ?_; rw [HH.out]; rintro e w1 ⟨rfl, hb1⟩)
        go_ret
        refine ⟨⟨_, rfl, ?_⟩, HBE.out.trans (hb1.mono HBE.out.size)⟩
        rw [all_no (k := k) (by rw [HL.out]; exact hlt) (by rw [HT.out, HH.out])]
        simp
      · have HH := Lib.hid hh
        clear hh
        go_wp2_with (go_at_call 67; refine (ruleClosure_any _ _ _ _ _ _ _ zs _ k0 hBr r1 hn').mono ?_; rw [HH.out]; rintro e w1 ⟨rfl, hb1⟩)
        go_roundw
        case rel => exact ⟨k + 1, by omega, by go_num, HBE.out.trans (hb1.mono HBE.out.size), hall.snoc (by rw [HT.out, HH.out])⟩
        case measure => simp [intOf]; omega
    · have HA := Lib.hid hall
      have e : k = n := by omega
      clear hall hbe
      go_wp2
      go_ret
      refine ⟨⟨_, rfl, ?_⟩, HBE.out⟩
      rw [HoldTo.all (by rw [HL.out, ← e]; exact HA.out)]
      rfl
theorem ContainsFuncTest_any (Bf : Nat) (A A' : Option Addr) (n n' c c' : Nat) (l : List TeT) (zs : List Int) (w : World) (hr : Rd w w.heap.size 3 A n (cte l)) (hc : w.cell? ⟨Bf, 0, none⟩ = some (.slice A' n' c')) (hBf : Bf < w.heap.size) (hr' : Rd w w.heap.size 1 A' n' (ci zs)) (hn : n ≤ 1048576) (hn' : n' ≤ 1048576) :
    Calls Try.prog 66 #[.slice A n c, .func (.func 67) #[] #[.pointer (some ⟨Bf, 0, none⟩)]] w fun e w' => e = .returned (.bool (!(l.all fun t => tstB t.1 t.2.1 t.2.2 zs))) ∧ Below w.heap.size w w' := by
  have HC := Lib.hid (IndexFuncTest_any Bf A A' n n' c c' l zs w hr hc hBf hr' hn hn')
  clear hr hc hr'
  generalize (l.all fun t => tstB t.1 t.2.1 t.2.2 zs) = z at HC ⊢
  go_enter Try.func66, Try.ntmps66
  go_wp2_with fail
  refine HC.out.mono ?_
  rintro e w1 ⟨⟨r, rfl, hr⟩, hb1⟩
  have HRR := Lib.hid hr
  clear hr
  go_wp2_with fail
  go_ret
  exact ⟨ret_bool HRR.out, hb1⟩
set_option maxHeartbeats 600000 in
theorem RuleHolds_any (A A' : Option Addr) (n n' c c' : Nat) (l : List TeT) (zs : List Int) (w : World) (hr : Rd w w.heap.size 3 A n (cte l)) (hr' : Rd w w.heap.size 1 A' n' (ci zs)) (hn : n ≤ 1048576) (hn' : n' ≤ 1048576) :
    Calls Try.prog 19 #[.agg #[.slice A n c], .slice A' n' c'] w fun e w' => e = .returned (.bool (rulB l zs)) ∧ Below w.heap.size w w' := by
  have hb0 : Below w.heap.size w ((w.alloc (.cells #[.slice A n c] 30)).alloc (.cells #[.slice A' n' c'] 25)) := by
    repeat (first | exact Below.refl _ _ | refine Below.alloc ?_ (by first | omega | (simp; done) | (simp; omega)) _)
  have r1 := (hr.below hb0).more hb0.size
  have q1 := (hr'.below hb0).more hb0.size
  have HB0 := Lib.hid hb0
  clear hr hr' hb0
  cases h1 : isFV zs
  · have HV : Hid (rulB l zs = false) := by unfold Hid rulB; rw [h1]; rfl
    have H1 := Lib.hid h1
    clear h1
    go_enter Try.func19, Try.ntmps19
    go_wp2_with (go_at_call 65; refine (IsFeatureVector_any _ _ _ zs _ q1 hn').mono ?_; rw [H1.out]; rintro e w1 ⟨rfl, rfl⟩)
    go_ret
    exact ⟨ret_bool HV.out.symm, HB0.out⟩
  · have HV : Hid (rulB l zs = (l.all fun t => tstB t.1 t.2.1 t.2.2 zs)) := by unfold Hid rulB; rw [h1, Bool.true_and]
    have H1 := Lib.hid h1
    clear h1
    have hcf := ContainsFuncTest_any (w.heap.size + 1) A A' n n' c c' l zs ((w.alloc (.cells #[.slice A n c] 30)).alloc (.cells #[.slice A' n' c'] 25)) r1 (by simp [go_sem]) (by simp) q1 hn hn'
    generalize (l.all fun t => tstB t.1 t.2.1 t.2.2 zs) = z at HV hcf
    have HCF := Lib.hid hcf
    clear hcf
    go_enter Try.func19, Try.ntmps19
    go_wp2_with (first | (go_at_call 65; refine (IsFeatureVector_any _ _ _ zs _ q1 hn').mono ?_; rw [H1.out]; rintro e w1 ⟨rfl, rfl⟩) | (go_at_call 66; refine HCF.out.mono ?_; rintro e w1 ⟨rfl, hb1⟩))
    go_ret
    exact ⟨ret_bool (by first | (rw [HV.out, Bool.not_not]; done) | rw [HV.out]), HB0.out.trans (hb1.mono HB0.out.size)⟩
end Go.Proofs.Ytjfhlhhobpdneaa
