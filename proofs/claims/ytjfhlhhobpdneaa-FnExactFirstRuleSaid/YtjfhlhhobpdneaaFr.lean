/- Contracts: FirstRule (both), RulesHold (both). -/
import Derived.Test.YtjfhlhhobpdneaaVri
import Derived.Test.YtjfhlhhobpdneaaRuleH
namespace Go.Proofs.Ytjfhlhhobpdneaa
open Go.RowKit

def NoneTo (p : Nat → Bool) (k : Nat) : Prop := ∀ i, i < k → p i = false
theorem NoneTo.snoc {p : Nat → Bool} {k : Nat} (h : NoneTo p k) (h' : p k = false) : NoneTo p (k + 1) := fun i hi => by
  by_cases e : i = k
  · rw [e]
    exact h'
  · exact h i (by omega)
def firstIx (p : Nat → Bool) : Nat → Nat → Int
  | 0, _ => -1
  | n + 1, k => if p k then k else firstIx p n (k + 1)
theorem firstIx_hit {p : Nat → Bool} : ∀ (n s k : Nat), s ≤ k → k < s + n → (∀ i, s ≤ i → i < k → p i = false) → p k = true → firstIx p n s = k
  | 0, s, k, h1, h2, _, _ => absurd h2 (by omega)
  | n + 1, s, k, h1, h2, h3, h4 => by
    unfold firstIx
    by_cases e : s = k
    · rw [e, h4]
      rfl
    · rw [h3 s (by omega) (by omega)]
      exact firstIx_hit n (s + 1) k (by omega) (by omega) (fun i hi hk => h3 i (by omega) hk) h4
theorem firstIx_none {p : Nat → Bool} : ∀ (n s : Nat), (∀ i, s ≤ i → i < s + n → p i = false) → firstIx p n s = -1
  | 0, _, _ => rfl
  | n + 1, s, h => by
    unfold firstIx
    rw [h s (by omega) (by omega)]
    exact firstIx_none n (s + 1) fun i hi hk => h i (by omega) (by omega)
theorem NoneTo.hit {p : Nat → Bool} {n k : Nat} (h : NoneTo p k) (hk : k < n) (h' : p k = true) : firstIx p n 0 = k := firstIx_hit n 0 k (by omega) (by omega) (fun i _ hi => h i hi) h'
theorem NoneTo.no {p : Nat → Bool} {n : Nat} (h : NoneTo p n) : firstIx p n 0 = -1 := firstIx_none n 0 fun i _ hi => h i (by omega)
def frP (ls : List (List TeD)) (zs : List Int) (k : Nat) : Bool := rulB (ls.getD k []) zs
def frV (ls : List (List TeD)) (zs : List Int) : Int := if rsOk ls then firstIx (frP ls zs) ls.length 0 else -1

set_option maxRecDepth 100000 in
set_option maxHeartbeats 4000000 in
theorem sFirstRule_any (A A' : Option Addr) (n n' c c' : Nat) (ls : List (List TeD)) (zs : List Int) (w : World) (hr : Rls w w.heap.size A n ls) (hr' : Rd w w.heap.size 1 A' n' (ci zs)) (hn : n ≤ 1048576) (hs : ∀ l ∈ ls, l.length ≤ 1048576) (hn' : n' ≤ 1048576) :
    Calls Try.prog 41 #[.agg #[.slice A n c], .slice A' n' c'] w fun e w' => e = .returned (.int .i64 (frV ls zs)) ∧ Below w.heap.size w w' := by
  have HL := Lib.hid hr.len
  have HR := Lib.hid hr.cells
  have HR' := Lib.hid hr'
  have HRL := Lib.hid hr
  have HS := Lib.hid hs
  have HK0 := Lib.hid (Blk.new w 62 #[.slice A n c])
  have HB0 := Lib.hid ((Below.refl w.heap.size w).alloc (Nat.le_refl _) (.cells #[.slice A n c] 62))
  clear hr hr' hs
  cases hv : rsOk ls
  all_goals
    have HV := Lib.hid hv
    clear hv
    go_enter Try.func41, Try.ntmps41
    go_wp2
    go_loopw [5] (fun i wr => ∃ k : Nat, k ≤ n ∧ i = .int .i64 k ∧ Below w.heap.size w wr ∧ Blk wr w.heap.size 62 #[.slice A n c] ∧ NoneTo (frP ls zs) k) (fun i _ => n - (intOf i).toNat)
    case atStart => exact ⟨0, by omega, rfl, HB0.out, HK0.out, fun i hi => absurd hi (by omega)⟩
  case round =>
    obtain ⟨k, hk, rfl, hbe, hK, hno⟩ := hrel
    have HBE := Lib.hid hbe
    have k0 := hK.cell 0
    simp only [List.getElem?_toArray, List.getElem?_cons_zero] at k0
    have rl1 := (HRL.out.below hbe).more hbe.size
    have HF : Hid (frV ls zs = -1) := by
      unfold Hid frV
      rw [HV.out]
      rfl
    clear hno hK hbe
    by_cases hlt : k < n
    · go_wp2_with (go_at_call 33; refine (sIsValidRules_any _ _ _ ls _ rl1 hn HS.out).mono ?_; rw [HV.out]; rintro e w1 ⟨rfl, hb1⟩)
      go_ret
      exact ⟨ret_int HF.out.symm, HBE.out.trans (hb1.mono HBE.out.size)⟩
    · have hd : decide (k < n) = false := decide_eq_false hlt
      go_wp2
      go_ret
      exact ⟨ret_int HF.out.symm, HBE.out⟩
  case round =>
    obtain ⟨k, hk, rfl, hbe, hK, hno⟩ := hrel
    have HBE := Lib.hid hbe
    have HK := Lib.hid hK
    have HNO := Lib.hid hno
    have k0 := hK.cell 0
    simp only [List.getElem?_toArray, List.getElem?_cons_zero] at k0
    have rl1 := (HRL.out.below hbe).more hbe.size
    clear hno hK hbe
    by_cases hlt : k < n
    · go_wp2_with fail
      refine (sIsValidRules_any _ _ _ ls _ rl1 hn HS.out).mono ?_
      rw [HV.out]
      rintro e w1 ⟨rfl, hb1⟩
      have hbe := HBE.out.trans (hb1.mono HBE.out.size)
      have HBF := Lib.hid hbe
      have hK2 := HK.out.below hb1 HK.out.lt
      have k2 := hK2.cell 0
      simp only [List.getElem?_toArray, List.getElem?_cons_zero] at k2
      have HK2 := Lib.hid hK2
      have r1 := (HR'.out.below hbe).more hbe.size
      obtain ⟨b, off, rfl, hb, hcc⟩ := HR.out (by omega)
      obtain ⟨A1, n1, c1, e1, s1⟩ := hcc k hlt
      have e0 := (hbe.cell (p := ⟨b, off + k, none⟩) hb).trans e1
      have s2 := (s1.below hbe).more hbe.size
      have hn1 : n1 ≤ 1048576 := by
        have h1 := s1.te_len
        have h2 := len_getD HS.out (by rw [HL.out]; exact hlt : k < ls.length)
        omega
      have HP := Lib.hid (show frP ls zs k = rulB (ls.getD k []) zs from rfl)
      generalize ls.getD k [] = l at s2 HP
      clear hcc e1 s1 hbe hK2 k0 rl1 hb1
      cases hh : rulB l zs
      · have HH := Lib.hid hh
        clear hh
        go_wp2_with (go_at_call 16; refine (sRuleHolds_any _ _ _ _ _ _ l zs _ s2 r1 hn1 hn').mono ?_; rw [HH.out]; rintro e w2 ⟨rfl, hb2⟩)
        go_roundw
        case rel => exact ⟨k + 1, by omega, by go_num, HBF.out.trans (hb2.mono HBF.out.size), HK2.out.below hb2 HK2.out.lt, HNO.out.snoc (by rw [HP.out, HH.out])⟩
        case measure => simp [intOf]; omega
      · have HH := Lib.hid hh
        clear hh
        go_wp2_with (go_at_call 16; refine (sRuleHolds_any _ _ _ _ _ _ l zs _ s2 r1 hn1 hn').mono ?_; rw [HH.out]; rintro e w2 ⟨rfl, hb2⟩)
        go_ret
        refine ⟨ret_int (Eq.symm ?_), HBF.out.trans (hb2.mono HBF.out.size)⟩
        unfold frV
        rw [HV.out, HL.out]
        exact HNO.out.hit hlt (by rw [HP.out, HH.out])
    · have hd : decide (k < n) = false := decide_eq_false hlt
      have e : k = n := by omega
      go_wp2
      go_ret
      refine ⟨ret_int (Eq.symm ?_), HBE.out⟩
      unfold frV
      rw [HV.out, HL.out, ← e]
      exact HNO.out.no
theorem frClosure_any (A : Option Addr) (n c : Nat) (l : List TeD) (Bf : Nat) (A' : Option Addr) (n' c' : Nat) (zs : List Int) (w : World) (hr : Rd w w.heap.size 3 A n (cte l)) (hn : n ≤ 1048576) (hc : w.cell? ⟨Bf, 0, none⟩ = some (.slice A' n' c')) (hBf : Bf < w.heap.size) (hr' : Rd w w.heap.size 1 A' n' (ci zs)) (hn' : n' ≤ 1048576) :
    Calls Try.prog 90 #[.agg #[.slice A n c], .pointer (some ⟨Bf, 0, none⟩)] w fun e w' => e = .returned (.bool (rulB l zs)) ∧ Below w.heap.size w w' := by
  have HB0 := Lib.hid ((Below.refl w.heap.size w).alloc (Nat.le_refl _) (.cells #[.slice A n c] 30))
  have r1 := (hr'.below HB0.out).more HB0.out.size
  have q1 := (hr.below HB0.out).more HB0.out.size
  go_enter Try.func90, Try.ntmps90
  go_wp2_with (go_at_call 19; refine (RuleHolds_any _ _ _ _ _ _ l zs _ q1 r1 hn hn').mono ?_; rintro e w1 ⟨rfl, hb1⟩)
  go_ret
  exact ⟨rfl, HB0.out.trans (hb1.mono HB0.out.size)⟩
set_option maxHeartbeats 4000000 in
theorem IndexFuncRule_any (Bf : Nat) (A A' : Option Addr) (n n' c c' : Nat) (ls : List (List TeD)) (zs : List Int) (w : World) (hr : Rls w w.heap.size A n ls) (hc : w.cell? ⟨Bf, 0, none⟩ = some (.slice A' n' c')) (hBf : Bf < w.heap.size) (hr' : Rd w w.heap.size 1 A' n' (ci zs)) (hn : n ≤ 1048576) (hs : ∀ l ∈ ls, l.length ≤ 1048576) (hn' : n' ≤ 1048576) :
    Calls Try.prog 89 #[.slice A n c, .func (.func 90) #[] #[.pointer (some ⟨Bf, 0, none⟩)]] w fun e w' => e = .returned (.int .i64 (firstIx (frP ls zs) ls.length 0)) ∧ Below w.heap.size w w' := by
  have HL := Lib.hid hr.len
  have HR := Lib.hid hr.cells
  have HR' := Lib.hid hr'
  have HC := Lib.hid hc
  have HS := Lib.hid hs
  clear hr hr' hc hs
  go_enter Try.func89, Try.ntmps89
  go_wp2
  go_loopw [8] (fun i wr => ∃ k : Nat, k ≤ n ∧ i = .int .i64 k ∧ Below w.heap.size w wr ∧ NoneTo (frP ls zs) k) (fun i _ => n - (intOf i).toNat)
  case atStart => exact ⟨0, by omega, rfl, Below.refl _ _, fun i hi => absurd hi (by omega)⟩
  case round =>
    obtain ⟨k, hk, rfl, hbe, hno⟩ := hrel
    have HBE := Lib.hid hbe
    have HNO := Lib.hid hno
    have k0 := (hbe.cell (p := ⟨Bf, 0, none⟩) hBf).trans HC.out
    have r1 := (HR'.out.below hbe).more hbe.size
    have hBr : Bf < wr.heap.size := Nat.lt_of_lt_of_le hBf hbe.size
    clear hno
    by_cases hlt : k < n
    · obtain ⟨b, off, rfl, hb, hcc⟩ := HR.out (by omega)
      obtain ⟨A1, n1, c1, e1, s1⟩ := hcc k hlt
      have e0 := (hbe.cell (p := ⟨b, off + k, none⟩) hb).trans e1
      have s2 := (s1.below hbe).more hbe.size
      have hn1 : n1 ≤ 1048576 := by
        have h1 := s1.te_len
        have h2 := len_getD HS.out (by rw [HL.out]; exact hlt : k < ls.length)
        omega
      have HP := Lib.hid (show frP ls zs k = rulB (ls.getD k []) zs from rfl)
      generalize ls.getD k [] = l at s2 HP
      clear hcc e1 s1 hbe
      cases hh : rulB l zs
      · have HH := Lib.hid hh
        clear hh
        go_wp2_with (go_at_call 90; refine (frClosure_any _ _ _ l _ _ _ _ zs _ s2 hn1 k0 hBr r1 hn').mono ?_; rw [HH.out]; rintro e w1 ⟨rfl, hb1⟩)
        go_roundw
        case rel => exact ⟨k + 1, by omega, by go_num, HBE.out.trans (hb1.mono HBE.out.size), HNO.out.snoc (by rw [HP.out, HH.out])⟩
        case measure => simp [intOf]; omega
      · have HH := Lib.hid hh
        clear hh
        go_wp2_with (go_at_call 90; refine (frClosure_any _ _ _ l _ _ _ _ zs _ s2 hn1 k0 hBr r1 hn').mono ?_; rw [HH.out]; rintro e w1 ⟨rfl, hb1⟩)
        go_ret
        exact ⟨ret_int (HNO.out.hit (by rw [HL.out]; exact hlt) (by rw [HP.out, HH.out])).symm, HBE.out.trans (hb1.mono HBE.out.size)⟩
    · have e : k = n := by omega
      clear hbe
      go_wp2
      go_ret
      exact ⟨ret_int (NoneTo.no (by rw [HL.out, ← e]; exact HNO.out)).symm, HBE.out⟩
set_option maxHeartbeats 4000000 in
theorem FirstRule_any (A A' : Option Addr) (n n' c c' : Nat) (ls : List (List TeD)) (zs : List Int) (w : World) (hr : Rls w w.heap.size A n ls) (hr' : Rd w w.heap.size 1 A' n' (ci zs)) (hn : n ≤ 1048576) (hs : ∀ l ∈ ls, l.length ≤ 1048576) (hn' : n' ≤ 1048576) :
    Calls Try.prog 42 #[.agg #[.slice A n c], .slice A' n' c'] w fun e w' => e = .returned (.int .i64 (frV ls zs)) ∧ Below w.heap.size w w' := by
  have hb0 : Below w.heap.size w ((w.alloc (.cells #[.slice A n c] 62)).alloc (.cells #[.slice A' n' c'] 25)) := by
    repeat (first | exact Below.refl _ _ | refine Below.alloc ?_ (by first | omega | (simp; done) | (simp; omega)) _)
  have r1 := (hr.below hb0).more hb0.size
  have q1 := (hr'.below hb0).more hb0.size
  have HK := Lib.hid ((Blk.new w 62 #[.slice A n c]).alloc (.cells #[.slice A' n' c'] 25))
  have HJ := Lib.hid (Blk.new (w.alloc (.cells #[.slice A n c] 62)) 25 #[.slice A' n' c'])
  have HB0 := Lib.hid hb0
  have HV := Lib.hid (IsValidRules_any A n c ls _ r1 hn hs)
  have HR' := Lib.hid q1
  have HRL := Lib.hid r1
  have HS := Lib.hid hs
  clear hr hr' hb0 r1 q1 hs
  cases hv : rsOk ls
  all_goals
    have HVV := Lib.hid hv
    rw [hv] at HV
    clear hv
    go_enter Try.func42, Try.ntmps42
    go_wp2_with fail
    refine HV.out.mono ?_
    rintro e w1 ⟨rfl, hb1⟩
    have HB1 := Lib.hid (HB0.out.trans (hb1.mono HB0.out.size))
    have k1 := (HK.out.below hb1 HK.out.lt).cell 0
    have j1 := HJ.out.below hb1 HJ.out.lt
    have hj := j1.lt
    have j2 := j1.cell 0
    have r2 := (HRL.out.below hb1).more hb1.size
    have q2 := (HR'.out.below hb1).more hb1.size
    have hsz : (w.alloc (.cells #[.slice A n c] 62)).heap.size = w.heap.size + 1 := by simp
    rw [hsz] at j2 hj
    simp only [List.getElem?_toArray, List.getElem?_cons_zero] at k1 j2
    clear j1 hb1 hsz
  · have HF : Hid (frV ls zs = -1) := by
      unfold Hid frV
      rw [HVV.out]
      rfl
    go_wp2
    go_ret
    exact ⟨ret_int HF.out.symm, HB1.out⟩
  · have HF : Hid (frV ls zs = firstIx (frP ls zs) ls.length 0) := by
      unfold Hid frV
      rw [HVV.out]
      rfl
    have HI := Lib.hid (IndexFuncRule_any (w.heap.size + 1) A A' n n' c c' ls zs w1 r2 j2 hj q2 hn HS.out hn')
    clear r2 q2
    go_wp2_with fail
    refine HI.out.mono ?_
    rintro e w2 ⟨rfl, hb2⟩
    go_wp2_with fail
    go_ret
    exact ⟨ret_int HF.out.symm, HB1.out.trans (hb2.mono HB1.out.size)⟩
end Go.Proofs.Ytjfhlhhobpdneaa
