/- Contracts over slices of TokenCount: toTokenCountS, eqTokenCountS, szTokenCountS, IsTokenTable, TokenFrequency. -/
import Derived.Test.YtdjagnlmcponaaaFeat
import Derived.Test.YtdjagnlmcponaaaMem
import Derived.Test.YtdjagnlmcponaaaRep
import Derived.StillTailTactics
namespace Go.Proofs.Ytdjagnlmcponaaa
open Go.RowKit

/-- the cells of a TokenCount, and of a list of them -/
def encTC (x : ByteArray × Int) : List Value := [.string x.1, .int .i64 x.2]
def ct (l : List (ByteArray × Int)) : List Value := l.flatMap encTC
def tcS (l : List (ByteArray × Int)) (k : Nat) : ByteArray := (l.getD k (ByteArray.empty, 0)).1
def tcC (l : List (ByteArray × Int)) (k : Nat) : Int := (l.getD k (ByteArray.empty, 0)).2
theorem ct_len (l : List (ByteArray × Int)) : (ct l).length = l.length * 2 := flatMap_len (k := 2) (enc := encTC) (fun _ => rfl) l
theorem ct_at0 (l : List (ByteArray × Int)) (i : Nat) (h : i < l.length) : (ct l)[i * 2]? = some (.string (tcS l i)) := by
  have := flatMap_at (k := 2) (enc := encTC) (fun _ => rfl) l i 0 (by omega)
  rw [Nat.add_zero] at this
  unfold ct
  rw [this, List.getElem?_eq_getElem h]
  simp [encTC, tcS, h]
theorem ct_at1 (l : List (ByteArray × Int)) (i : Nat) (h : i < l.length) : (ct l)[i * 2 + 1]? = some (.int .i64 (tcC l i)) := by
  have := flatMap_at (k := 2) (enc := encTC) (fun _ => rfl) l i 1 (by omega)
  unfold ct
  rw [this, List.getElem?_eq_getElem h]
  simp [encTC, tcC, h]
theorem Rd.tc_len {w : World} {B : Nat} {A : Option Addr} {n : Nat} {l : List (ByteArray × Int)} (h : Rd w B 2 A n (ct l)) : l.length = n := by
  have := h.1
  rw [ct_len] at this
  omega
theorem Rd.tc_cells {w : World} {B : Nat} {A : Option Addr} {n : Nat} {l : List (ByteArray × Int)} (h : Rd w B 2 A n (ct l)) : 0 < n → ∃ b off, A = some ⟨b, off, none⟩ ∧ b < B ∧
    ∀ k, k < n → w.cell? ⟨b, off + k * 2, none⟩ = some (.string (tcS l k)) ∧ w.cell? ⟨b, off + k * 2 + 1, none⟩ = some (.int .i64 (tcC l k)) := by
  intro hn
  obtain ⟨b, off, rfl, hb, hc⟩ := h.2 hn
  have hl := h.tc_len
  exact ⟨b, off, rfl, hb, fun k hk => ⟨hc _ _ (ct_at0 l k (by omega)), by rw [Nat.add_assoc]; exact hc _ _ (ct_at1 l k (by omega))⟩⟩

theorem toTokenCount_any (s : ByteArray) (c : Int) (w : World) : Calls Try.prog 58 #[.agg #[.string s, .int .i64 c]] w fun e w' => e = .returned (.agg #[.string s, .int .i64 c]) ∧ Below w.heap.size w w' := by
  go_enter Try.func58, Try.ntmps58
  go_wp2
  refine bodyPost_ret (v := .agg #[.string s, .int .i64 c]) (by simp [results, Try.results58, go_sem]) rfl ⟨rfl, ?_⟩
  repeat (first | exact Below.refl _ _ | refine Below.alloc ?_ (by first | omega | (simp; done) | (simp; omega)) _ | refine Below.setCell ?_ (by first | omega | (simp; done) | (simp; omega)) _ | refine below_drewN ?_ _)

theorem info_TC : (Try.prog.info? 73).map (fun i => (i.zero, i.size, i.bytes)) = some (some (.agg #[.string ByteArray.empty, .int .i64 0]), 2, 24) := by kernel_rfl
theorem toTokenCountS_any (A : Option Addr) (n c : Nat) (l : List (ByteArray × Int)) (w : World) (hr : Rd w w.heap.size 2 A n (ct l)) (hn : n ≤ 1048576) :
    Calls Try.prog 33 #[.slice A n c] w fun e w' => e = .returned (.slice (some ⟨w.heap.size, 0, none⟩) n n) ∧ Blk w' w.heap.size 73 (ct l).toArray ∧ w.heap.size < w'.heap.size ∧ Below w.heap.size w w' := by
  have HR := Lib.hid hr.tc_cells
  have HL := Lib.hid hr.tc_len
  clear hr
  have hmk := mk_any (P := Try.prog) 42 73 (.agg #[.string ByteArray.empty, .int .i64 0]) 2 24 n Try.underlying42 info_TC (by omega) (by omega)
  go_enter Try.func33, Try.ntmps33
  go_wp2
  clear hmk
  go_loopw [4] (fun i wr => ∃ k : Nat, k ≤ n ∧ i = .int .i64 k ∧ w.heap.size < wr.heap.size ∧ Below w.heap.size w wr ∧
      ∃ cs : Array Value, Blk wr w.heap.size 73 cs ∧ cs.size = n * 2 ∧ Filled cs (k * 2) (ct l)) (fun i _ => n - (intOf i).toNat)
  case atStart => exact ⟨0, by omega, rfl, by simp, (Below.refl _ _).alloc (Nat.le_refl _) _, _, Blk.new _ _ _, by simp [size_madeCells], fun j hj => absurd hj (by omega)⟩
  case round =>
    obtain ⟨k, hk, rfl, hsz, hb, cs, hB, hcs, hz⟩ := hrel
    by_cases hlt : k < n
    · obtain ⟨b, off, rfl, hbb, hcc⟩ := HR.out (by omega)
      obtain ⟨hc0, hc1⟩ := hcc k hlt
      have hs0 : wr.cell? ⟨b, off + k * 2, none⟩ = some (.string (tcS l k)) := by rw [hb.cell (p := ⟨b, off + k * 2, none⟩) hbb]; exact hc0
      have hs1 : wr.cell? ⟨b, off + k * 2 + 1, none⟩ = some (.int .i64 (tcC l k)) := by rw [hb.cell (p := ⟨b, off + k * 2 + 1, none⟩) hbb]; exact hc1
      have HB := Lib.hid hB
      have HZ := Lib.hid hz
      have HCS := Lib.hid hcs
      have HBE := Lib.hid hb
      clear hB hz hcc hc0 hc1 hb hcs
      go_wp2_with fail
      refine (toTokenCount_any _ _ _).mono ?_
      rintro e w1 ⟨rfl, hb1⟩
      have hB1 := HB.out.below hb1 hsz
      obtain ⟨o0, ho0⟩ := get_some (cs := cs) (i := k * 2) (by rw [HCS.out]; omega)
      obtain ⟨o1, ho1⟩ := get_some (cs := cs) (i := k * 2 + 1) (by rw [HCS.out]; omega)
      have hd0 := (hB1.cell (k * 2)).trans ho0
      have hd1 := (hB1.cell (k * 2 + 1)).trans ho1
      have hf0 := hB1.frozen (k * 2)
      have hf1 := hB1.frozen (k * 2 + 1)
      clear ho0 ho1
      have HB1 := Lib.hid hB1
      clear hB1
      go_wp2
      go_roundw
      case rel =>
        have f1 := (HZ.out.put (u := .string (tcS l k)) (by rw [HCS.out]; omega) (ct_at0 l k (by have := HL.out; omega))).put (u := .int .i64 (tcC l k)) (by simp [HCS.out]; omega) (ct_at1 l k (by have := HL.out; omega))
        exact ⟨k + 1, by omega, by go_num, Nat.lt_of_lt_of_le hsz (by simpa [World.setCell] using hb1.size), (((HBE.out.trans (hb1.mono (by omega))).setCell (Nat.le_refl _) _).setCell (Nat.le_refl _) _), _, (HB1.out.put _ _).put _ _, by simpa using HCS.out,
          by rw [show (k + 1) * 2 = k * 2 + 1 + 1 from by omega]; exact f1⟩
      case measure => simp [intOf]; omega
    · have HB := Lib.hid hB
      have HZ := Lib.hid hz
      have HCS := Lib.hid hcs
      clear hB hz hcs
      have e : k = n := by omega
      subst e
      go_wp2
      go_ret
      refine ⟨rfl, ?_, hsz, hb⟩
      rw [← HZ.out.whole HCS.out (by rw [ct_len, HL.out])]
      exact HB.out

theorem eqTokenCount_any (s s' : ByteArray) (c c' : Int) (w : World) : Calls Try.prog 59 #[.agg #[.string s, .int .i64 c], .agg #[.string s', .int .i64 c']] w fun e w' =>
    e = .returned (.bool (decide (s = s' ∧ c = c'))) ∧ Below w.heap.size w w' := by
  by_cases hs : s = s'
  · subst hs
    by_cases hcc : c = c'
    · subst hcc
      rw [decide_eq_true ⟨rfl, rfl⟩]
      go_enter Try.func59, Try.ntmps59
      go_wp2
      go_ret
      refine ⟨rfl, ?_⟩
      repeat (first | exact Below.refl _ _ | refine Below.alloc ?_ (by first | omega | (simp; done) | (simp; omega)) _)
    · rw [decide_eq_false (fun h => hcc h.2)]
      have h1 : (c == c') = false := by simpa using hcc
      have h2 : (c != c') = true := by simpa using hcc
      clear hcc
      go_enter Try.func59, Try.ntmps59
      go_wp2
      go_ret
      refine ⟨rfl, ?_⟩
      repeat (first | exact Below.refl _ _ | refine Below.alloc ?_ (by first | omega | (simp; done) | (simp; omega)) _)
  · rw [decide_eq_false (fun h => hs h.1)]
    have h1 := str_ne hs
    clear hs
    go_enter Try.func59, Try.ntmps59
    go_wp2
    go_ret
    refine ⟨rfl, ?_⟩
    repeat (first | exact Below.refl _ _ | refine Below.alloc ?_ (by first | omega | (simp; done) | (simp; omega)) _)

def SameTC (xs ys : List (ByteArray × Int)) (k : Nat) : Prop := ∀ i, i < k → tcS xs i = tcS ys i ∧ tcC xs i = tcC ys i
theorem SameTC.snoc {xs ys : List (ByteArray × Int)} {k : Nat} (h : SameTC xs ys k) (h' : tcS xs k = tcS ys k ∧ tcC xs k = tcC ys k) : SameTC xs ys (k + 1) := fun i hi => by
  by_cases e : i = k
  · rw [e]
    exact h'
  · exact h i (by omega)
theorem SameTC.eq {xs ys : List (ByteArray × Int)} (h : SameTC xs ys xs.length) (hl : xs.length = ys.length) : xs = ys := by
  apply List.ext_getElem hl
  intro i h1 h2
  have := h i h1
  simp only [tcS, tcC, List.getD_eq_getElem?_getD, List.getElem?_eq_getElem h1, List.getElem?_eq_getElem h2, Option.getD_some] at this
  exact Prod.ext this.1 this.2
theorem eqTokenCountS_any (A A' : Option Addr) (n n' c c' : Nat) (xs ys : List (ByteArray × Int)) (w : World) (hr : Rd w w.heap.size 2 A n (ct xs)) (hr' : Rd w w.heap.size 2 A' n' (ct ys)) (hn : n ≤ 1048576) (hn' : n' ≤ 1048576) :
    Calls Try.prog 35 #[.slice A n c, .slice A' n' c'] w fun e w' => e = .returned (.bool (decide (xs = ys))) ∧ Below w.heap.size w w' := by
  have HL := Lib.hid hr.tc_len
  have HL' := Lib.hid hr'.tc_len
  have HR := Lib.hid hr.tc_cells
  have HR' := Lib.hid hr'.tc_cells
  clear hr hr'
  by_cases hnn : n = n'
  · subst hnn
    go_enter Try.func35, Try.ntmps35
    go_wp2
    go_loopw [5] (fun i wr => ∃ k : Nat, k ≤ n ∧ i = .int .i64 k ∧ Below w.heap.size w wr ∧ SameTC xs ys k) (fun i _ => n - (intOf i).toNat)
    case atStart => exact ⟨0, by omega, rfl, Below.refl _ _, fun i hi => absurd hi (by omega)⟩
    case round =>
      obtain ⟨k, hk, rfl, hbe, hsm⟩ := hrel
      have HBE := Lib.hid hbe
      by_cases hlt : k < n
      · obtain ⟨b, off, rfl, hb, hcc⟩ := HR.out (by omega)
        obtain ⟨b', off', rfl, hb', hcc'⟩ := HR'.out (by omega)
        obtain ⟨hc0, hc1⟩ := hcc k hlt
        obtain ⟨hd0, hd1⟩ := hcc' k hlt
        have e0 := (hbe.cell (p := ⟨b, off + k * 2, none⟩) hb).trans hc0
        have e1 := (hbe.cell (p := ⟨b, off + k * 2 + 1, none⟩) hb).trans hc1
        have e0' := (hbe.cell (p := ⟨b', off' + k * 2, none⟩) hb').trans hd0
        have e1' := (hbe.cell (p := ⟨b', off' + k * 2 + 1, none⟩) hb').trans hd1
        clear hcc hcc' hc0 hc1 hd0 hd1 hbe
        generalize hs : tcS xs k = s at e0
        generalize hc : tcC xs k = c at e1
        generalize hs' : tcS ys k = s' at e0'
        generalize hc' : tcC ys k = c' at e1'
        have HS := Lib.hid hs
        have HC := Lib.hid hc
        have HS' := Lib.hid hs'
        have HC' := Lib.hid hc'
        clear hs hc hs' hc'
        by_cases heq : s = s' ∧ c = c'
        · have HD : Hid (decide (s = s' ∧ c = c') = true) := decide_eq_true heq
          have HE := Lib.hid heq
          clear heq
          go_wp2_with fail
          go_still_tail 8, (by kernel_rfl)
          change wpList _ _ _ _ _ wr.drew
          have hbd := HBE.out.drew
          generalize wr.drew = w2 at hbd ⊢
          go_wp2_with (go_at_call 59; refine (eqTokenCount_any _ _ _ _ _).mono ?_; rw [HD.out]; rintro e w3 ⟨rfl, hb3⟩)
          go_roundw
          case rel => exact ⟨k + 1, by omega, by go_num, hbd.trans (hb3.mono hbd.size), hsm.snoc ⟨by rw [HS.out, HS'.out, HE.out.1], by rw [HC.out, HC'.out, HE.out.2]⟩⟩
          case measure => simp [intOf]; omega
        · have HD : Hid (decide (s = s' ∧ c = c') = false) := decide_eq_false heq
          have HE := Lib.hid heq
          clear heq
          go_wp2_with fail
          go_still_tail 8, (by kernel_rfl)
          change wpList _ _ _ _ _ wr.drew
          have hbd := HBE.out.drew
          generalize wr.drew = w2 at hbd ⊢
          go_wp2_with (go_at_call 59; refine (eqTokenCount_any _ _ _ _ _).mono ?_; rw [HD.out]; rintro e w3 ⟨rfl, hb3⟩)
          go_ret
          refine ⟨ret_bool ?_, hbd.trans (hb3.mono hbd.size)⟩
          rw [eq_comm, decide_eq_false_iff_not]
          rintro rfl
          exact HE.out ⟨HS.out.symm.trans HS'.out, HC.out.symm.trans HC'.out⟩
      · have e : k = n := by omega
        have HS := Lib.hid hsm
        clear hsm
        subst e
        go_wp2
        go_ret
        refine ⟨ret_bool ?_, hbe⟩
        rw [eq_comm, decide_eq_true_iff]
        have h1 := HL.out
        have h2 := HL'.out
        exact SameTC.eq (by rw [h1]; exact HS.out) (by omega)
  · have h1 : ((n : Int) == (n' : Int)) = false := by simp; omega
    have h2 : ((n : Int) != (n' : Int)) = true := by simp; omega
    have HN := Lib.hid hnn
    clear hnn
    go_enter Try.func35, Try.ntmps35
    go_wp2
    go_ret
    refine ⟨ret_bool ?_, Below.refl _ _⟩
    rw [eq_comm, decide_eq_false_iff_not]
    rintro rfl
    exact HN.out (HL.out.symm.trans HL'.out)

/-! ### szTokenCountS -/
def tcSum (l : List (ByteArray × Int)) (k : Nat) : Nat := ((l.take k).map fun x => x.1.size).sum
theorem tcSum_succ {l : List (ByteArray × Int)} {k : Nat} (h : k < l.length) : tcSum l (k + 1) = tcSum l k + (tcS l k).size := by
  unfold tcSum
  rw [List.take_succ_eq_append_getElem h, List.map_append, List.sum_append]
  simp only [List.map_cons, List.map_nil, List.sum_cons, List.sum_nil, Nat.add_zero, tcS, List.getD_eq_getElem?_getD, List.getElem?_eq_getElem h, Option.getD_some]
theorem szTokenCount_any (s : ByteArray) (c left : Int) (h0 : 0 ≤ left) (h1 : left ≤ 1048576) (hs : s.size ≤ 9223372036854775807) (w : World) :
    Calls Try.prog 57 #[.agg #[.string s, .int .i64 c], .int .i64 left] w fun e w' => e = .returned (.int .i64 (if left < s.size then -1 else left - s.size)) ∧ Below w.heap.size w w' := by
  by_cases h : left < s.size
  · rw [if_pos h]
    go_enter Try.func57, Try.ntmps57
    go_wp2
    go_ret
    exact ⟨rfl, (Below.refl _ _).alloc (Nat.le_refl _) _⟩
  · rw [if_neg h]
    go_enter Try.func57, Try.ntmps57
    go_wp2
    go_ret
    exact ⟨rfl, (Below.refl _ _).alloc (Nat.le_refl _) _⟩
theorem szTokenCountS_any (A : Option Addr) (n c : Nat) (l : List (ByteArray × Int)) (left : Int) (h0 : 0 ≤ left) (h1 : left ≤ 1048576) (w : World) (hr : Rd w w.heap.size 2 A n (ct l)) (hs : ∀ x ∈ l, x.1.size ≤ maxLen) (hn : n ≤ maxLen) :
    Calls Try.prog 31 #[.slice A n c, .int .i64 left] w fun e w' => (∃ r : Int, e = .returned (.int .i64 r) ∧ (0 ≤ r → r + n + tcSum l n = left)) ∧ Below w.heap.size w w' := by
  have HL := Lib.hid hr.tc_len
  have HR := Lib.hid hr.tc_cells
  have HS := Lib.hid hs
  clear hr hs
  unfold maxLen at hn
  by_cases hlt0 : left < n
  · go_enter Try.func31, Try.ntmps31
    go_wp2
    go_ret
    exact ⟨⟨_, rfl, fun h => absurd h (by omega)⟩, Below.refl _ _⟩
  · go_enter Try.func31, Try.ntmps31
    go_wp2
    go_loopw [1, 5] (fun r i wr => ∃ (k : Nat) (q : Int), k ≤ n ∧ i = .int .i64 k ∧ r = .int .i64 q ∧ 0 ≤ q ∧ q ≤ 1048576 ∧ Hid (q + n + tcSum l k = left) ∧ Below w.heap.size w wr) (fun _ i _ => n - (intOf i).toNat)
    case atStart => exact ⟨0, left - n, by omega, rfl, rfl, by omega, by omega, by unfold Hid; simp [tcSum], Below.refl _ _⟩
    case round =>
      obtain ⟨k, q, hk, rfl, rfl, q0, q1, hq, hbe⟩ := hrel
      have HBE := Lib.hid hbe
      by_cases hlt : k < n
      · obtain ⟨b, off, rfl, hb, hcc⟩ := HR.out (by omega)
        obtain ⟨hc0, hc1⟩ := hcc k hlt
        have e0 := (hbe.cell (p := ⟨b, off + k * 2, none⟩) hb).trans hc0
        have e1 := (hbe.cell (p := ⟨b, off + k * 2 + 1, none⟩) hb).trans hc1
        have hkl : k < l.length := by rw [HL.out]; exact hlt
        have hsz : (tcS l k).size ≤ 9223372036854775807 := by
          have := HS.out l[k] (List.getElem_mem hkl)
          simpa [tcS, hkl, maxLen] using this
        have HT := Lib.hid (tcSum_succ hkl)
        clear hcc hc0 hc1 hbe hkl
        generalize hs : tcS l k = s at e0 hsz
        have HSS := Lib.hid hs
        clear hs
        by_cases hlq : q < s.size
        · go_wp2_with (go_at_call 57; refine (szTokenCount_any _ _ _ q0 q1 hsz _).mono ?_; rw [if_pos hlq]; rintro e w3 ⟨rfl, hb3⟩)
          go_ret
          exact ⟨⟨_, rfl, fun h => absurd h (by omega)⟩, HBE.out.trans (hb3.mono HBE.out.size)⟩
        · go_wp2_with (go_at_call 57; refine (szTokenCount_any _ _ _ q0 q1 hsz _).mono ?_; rw [if_neg hlq]; rintro e w3 ⟨rfl, hb3⟩)
          go_roundw
          case rel => exact ⟨k + 1, _, by omega, by go_num, rfl, by omega, by omega, by unfold Hid; have h1 := hq.out; have h2 := HT.out; rw [HSS.out] at h2; omega, HBE.out.trans (hb3.mono HBE.out.size)⟩
          case measure => simp [intOf]; omega
      · have e : k = n := by omega
        subst e
        go_wp2
        go_ret
        exact ⟨⟨_, rfl, fun _ => hq.out⟩, hbe⟩

/-! ### TokenFrequency -/
def freq : List (ByteArray × Int) → ByteArray → Int
  | [], _ => 0
  | x :: l, t => if x.1 = t then x.2 else freq l t
theorem freq_hit : ∀ (l : List (ByteArray × Int)) (t : ByteArray) (k : Nat), k < l.length → (∀ i, i < k → tcS l i ≠ t) → tcS l k = t → freq l t = tcC l k
  | [], _, k, hk, _, _ => by simp at hk
  | x :: l, t, 0, _, _, h => by
    have : x.1 = t := h
    simp [freq, this, tcC]
  | x :: l, t, k + 1, hk, h, h' => by
    have hx : x.1 ≠ t := h 0 (by omega)
    have := freq_hit l t k (by simpa using hk) (fun i hi => h (i + 1) (by omega)) h'
    simp only [freq, if_neg hx, this]
    rfl
theorem freq_miss : ∀ (l : List (ByteArray × Int)) (t : ByteArray), (∀ i, i < l.length → tcS l i ≠ t) → freq l t = 0
  | [], _, _ => rfl
  | x :: l, t, h => by
    have hx : x.1 ≠ t := h 0 (by simp)
    simp only [freq, if_neg hx]
    exact freq_miss l t fun i hi => h (i + 1) (by simpa using hi)
def NoTok (l : List (ByteArray × Int)) (t : ByteArray) (k : Nat) : Prop := ∀ i, i < k → tcS l i ≠ t
theorem NoTok.snoc {l : List (ByteArray × Int)} {t : ByteArray} {k : Nat} (h : NoTok l t k) (h' : tcS l k ≠ t) : NoTok l t (k + 1) := fun i hi => by
  by_cases e : i = k
  · rw [e]
    exact h'
  · exact h i (by omega)
theorem sTokenFrequency_any (A : Option Addr) (n c : Nat) (l : List (ByteArray × Int)) (t : ByteArray) (w : World) (hr : Rd w w.heap.size 2 A n (ct l)) (hn : n ≤ 1048576) :
    Calls Try.prog 36 #[.slice A n c, .string t] w fun e w' => e = .returned (.int .i64 (freq l t)) ∧ w = w' := by
  have HL := Lib.hid hr.tc_len
  have HR := Lib.hid hr.tc_cells
  clear hr
  go_enter Try.func36, Try.ntmps36
  go_wp2
  go_loop [5] (fun i => ∃ k : Nat, k ≤ n ∧ i = .int .i64 k ∧ NoTok l t k) (fun i => n - (intOf i).toNat)
  case atStart => exact ⟨0, by omega, rfl, fun i hi => absurd hi (by omega)⟩
  case round =>
    obtain ⟨k, hk, rfl, hno⟩ := hrel
    by_cases hlt : k < n
    · obtain ⟨b, off, rfl, hb, hcc⟩ := HR.out (by omega)
      obtain ⟨hc0, hc1⟩ := hcc k hlt
      clear hcc
      generalize hs : tcS l k = s at hc0
      generalize hq : tcC l k = q at hc1
      have HS := Lib.hid hs
      have HQ := Lib.hid hq
      clear hs hq
      by_cases hst : s = t
      · have HST := Lib.hid hst
        have h1 : (s.toList == t.toList) = true := by rw [hst]; simp
        clear hst
        go_wp2
        go_ret
        refine ⟨ret_int ?_, rfl⟩
        rw [freq_hit l t k (by rw [HL.out]; exact hlt) hno (by rw [HS.out, HST.out]), HQ.out]
      · have HST := Lib.hid hst
        have h1 := str_ne hst
        clear hst
        go_wp2
        go_round
        case rel => exact ⟨k + 1, by omega, by go_num, hno.snoc (by rw [HS.out]; exact HST.out)⟩
        case measure => simp [intOf]; omega
    · have HN := Lib.hid hno
      go_wp2
      go_ret
      exact ⟨ret_int (freq_miss l t (fun i hi => HN.out i (by have := HL.out; omega))).symm, rfl⟩
theorem TokenFrequency_any (A : Option Addr) (n c : Nat) (l : List (ByteArray × Int)) (t : ByteArray) (w : World) (hr : Rd w w.heap.size 2 A n (ct l)) (hn : n ≤ 1048576) :
    Calls Try.prog 37 #[.slice A n c, .string t] w fun e w' => e = .returned (.int .i64 (freq l t)) ∧ Below w.heap.size w w' := by
  have HL := Lib.hid hr.tc_len
  have HR := Lib.hid hr.tc_cells
  clear hr
  go_enter Try.func37, Try.ntmps37
  go_wp2
  go_loopw [9] (fun i wr => ∃ k : Nat, k ≤ n ∧ i = .int .i64 k ∧ Below w.heap.size w wr ∧ NoTok l t k) (fun i _ => n - (intOf i).toNat)
  case atStart => exact ⟨0, by omega, rfl, Below.refl _ _, fun i hi => absurd hi (by omega)⟩
  case round =>
    obtain ⟨k, hk, rfl, hbe, hno⟩ := hrel
    have HBE := Lib.hid hbe
    by_cases hlt : k < n
    · obtain ⟨b, off, rfl, hb, hcc⟩ := HR.out (by omega)
      obtain ⟨hc0, hc1⟩ := hcc k hlt
      have e0 := (hbe.cell (p := ⟨b, off + k * 2, none⟩) hb).trans hc0
      have e1 := (hbe.cell (p := ⟨b, off + k * 2 + 1, none⟩) hb).trans hc1
      clear hcc hc0 hc1 hbe
      generalize hs : tcS l k = s at e0
      generalize hq : tcC l k = q at e1
      have HS := Lib.hid hs
      have HQ := Lib.hid hq
      clear hs hq
      by_cases hst : s = t
      · have HST := Lib.hid hst
        have h1 : (s.toList == t.toList) = true := by rw [hst]; simp
        clear hst
        go_wp2
        go_ret
        refine ⟨ret_int ?_, ?_⟩
        · rw [freq_hit l t k (by rw [HL.out]; exact hlt) hno (by rw [HS.out, HST.out]), HQ.out]
        · repeat (first | exact HBE.out | refine Below.alloc ?_ (by first | exact HBE.out.size | (have := HBE.out.size; simp; omega)) _ | refine Below.setCell ?_ HBE.out.size _)
      · have HST := Lib.hid hst
        have h1 := str_ne hst
        clear hst
        go_wp2
        go_roundw
        case rel =>
          refine ⟨k + 1, by omega, by go_num, ?_, hno.snoc (by rw [HS.out]; exact HST.out)⟩
          repeat (first | exact HBE.out | refine Below.alloc ?_ (by first | exact HBE.out.size | (have := HBE.out.size; simp; omega)) _ | refine Below.setCell ?_ HBE.out.size _)
        case measure => simp [intOf]; omega
    · have HN := Lib.hid hno
      go_wp2
      go_ret
      exact ⟨ret_int (freq_miss l t (fun i hi => HN.out i (by have := HL.out; omega))).symm, hbe⟩

/-! ### IsTokenTable -/
/-- a table of tokens, up to place k: counts at least 1, tokens rising -/
def TabTo (l : List (ByteArray × Int)) (k : Nat) : Prop := ∀ i, i < k → 1 ≤ tcC l i ∧ (0 < i → sLt (tcS l (i - 1)) (tcS l i) = true)
theorem TabTo.snoc {l : List (ByteArray × Int)} {k : Nat} (h : TabTo l k) (h' : 1 ≤ tcC l k) (h'' : 0 < k → sLt (tcS l (k - 1)) (tcS l k) = true) : TabTo l (k + 1) := fun i hi => by
  by_cases e : i = k
  · rw [e]
    exact ⟨h', h''⟩
  · exact h i (by omega)
def isTab (l : List (ByteArray × Int)) : Bool := (List.range l.length).all fun i => decide (1 ≤ tcC l i) && (i == 0 || sLt (tcS l (i - 1)) (tcS l i))
theorem isTab_iff {l : List (ByteArray × Int)} : isTab l = true ↔ TabTo l l.length := by
  unfold isTab TabTo
  rw [List.all_eq_true]
  constructor
  · intro h i hi
    have := h i (List.mem_range.2 hi)
    simp only [Bool.and_eq_true, decide_eq_true_iff, Bool.or_eq_true, beq_iff_eq] at this
    exact ⟨this.1, fun h0 => this.2.resolve_left (by omega)⟩
  · intro h i hi
    have := h i (List.mem_range.1 hi)
    simp only [Bool.and_eq_true, decide_eq_true_iff, Bool.or_eq_true, beq_iff_eq]
    exact ⟨this.1, by
      rcases Nat.eq_zero_or_pos i with h0 | h0
      · exact .inl h0
      · exact .inr (this.2 h0)⟩
theorem isTab_no {l : List (ByteArray × Int)} {k : Nat} (hk : k < l.length) (h : 1 ≤ tcC l k → 0 < k → sLt (tcS l (k - 1)) (tcS l k) = false) (h' : tcC l k < 1 ∨ 0 < k) : isTab l = false := by
  rw [← Bool.not_eq_true, isTab_iff]
  intro ht
  obtain ⟨h1, h2⟩ := ht k hk
  rcases h' with h' | h'
  · omega
  · have := h2 h'
    rw [h h1 h'] at this
    cases this
set_option maxHeartbeats 1000000 in
theorem sIsTokenTable_any (A : Option Addr) (n c : Nat) (l : List (ByteArray × Int)) (w : World) (hr : Rd w w.heap.size 2 A n (ct l)) (hn : n ≤ 1048576) :
    Calls Try.prog 32 #[.slice A n c] w fun e w' => e = .returned (.bool (isTab l)) ∧ ∃ d, w' = w.drewN d := by
  have HL := Lib.hid hr.tc_len
  have HR := Lib.hid hr.tc_cells
  clear hr
  go_enter Try.func32, Try.ntmps32
  go_wp2
  go_loopw [3] (fun i wr => ∃ k d : Nat, k ≤ n ∧ i = .int .i64 k ∧ wr = w.drewN d ∧ TabTo l k) (fun i _ => n - (intOf i).toNat)
  case atStart => exact ⟨0, 0, by omega, rfl, rfl, fun i hi => absurd hi (by omega)⟩
  case round =>
    obtain ⟨k, d, hk, rfl, rfl, htab⟩ := hrel
    by_cases hlt : k < n
    · obtain ⟨b, off, rfl, hb, hcc⟩ := HR.out (by omega)
      obtain ⟨hc0, hc1⟩ := hcc k hlt
      have HCC := Lib.hid hcc
      clear hcc
      generalize hs : tcS l k = s at hc0
      generalize hq : tcC l k = q at hc1
      have HS := Lib.hid hs
      have HQ := Lib.hid hq
      clear hs hq
      by_cases hq1 : q < 1
      · go_wp2
        go_quiet (fail)
        go_wp2
        go_ret
        exact ⟨ret_bool (isTab_no (k := k) (by rw [HL.out]; exact hlt) (fun h => absurd h (by rw [HQ.out]; omega)) (.inl (by rw [HQ.out]; exact hq1))).symm, _, by first | rfl | exact World.drewN_drewN _ _ _⟩
      · have hq2 : decide (q < 1) = false := by simpa using hq1
        rcases Nat.eq_zero_or_pos k with h0 | h0
        · subst h0
          have hg : decide ((0 : Int) < ((0 : Nat) : Int)) = false := by decide
          simp only [Nat.zero_mul, Nat.add_zero] at hc0 hc1
          go_wp2
          go_quiet (fail)
          go_wp2
          go_roundw
          case rel => exact ⟨0 + 1, _, by omega, by go_num, rfl, htab.snoc (by rw [HQ.out]; omega) (fun h => absurd h (by omega))⟩
          case measure => simp [intOf]; omega
        · obtain ⟨j, rfl⟩ : ∃ j, k = j + 1 := ⟨k - 1, by omega⟩
          have hcp := (HCC.out j (by omega)).1
          generalize hp : tcS l j = p at hcp
          have HP := Lib.hid hp
          clear hp
          have hg : (0 : Int) < (j : Int) + 1 := by omega
          cases hlss : Op.bytesLess p.toList s.toList
          · go_wp2
            go_quiet (fail)
            go_wp2
            go_ret
            exact ⟨ret_bool (isTab_no (k := j + 1) (by rw [HL.out]; exact hlt) (fun _ _ => by rw [Nat.add_sub_cancel, HP.out, HS.out]; exact hlss) (.inr h0)).symm, _, by first | rfl | exact World.drewN_drewN _ _ _⟩
          · go_wp2
            go_quiet (fail)
            go_wp2
            go_roundw
            case rel => exact ⟨j + 1 + 1, _, by omega, by go_num, rfl, htab.snoc (by rw [HQ.out]; omega) (fun _ => by rw [Nat.add_sub_cancel, HP.out, HS.out]; exact hlss)⟩
            case measure => simp [intOf]; omega
    · have HT := Lib.hid htab
      clear htab
      go_wp2
      go_ret
      exact ⟨ret_bool (isTab_iff.2 (by rw [HL.out, show n = k by omega]; exact HT.out)).symm, _, rfl⟩
set_option maxHeartbeats 1000000 in
theorem IsTokenTable_any (A : Option Addr) (n c : Nat) (l : List (ByteArray × Int)) (w : World) (hr : Rd w w.heap.size 2 A n (ct l)) (hn : n ≤ 1048576) :
    Calls Try.prog 34 #[.slice A n c] w fun e w' => e = .returned (.bool (isTab l)) ∧ Below w.heap.size w w' := by
  have HL := Lib.hid hr.tc_len
  have HR := Lib.hid hr.tc_cells
  clear hr
  go_enter Try.func34, Try.ntmps34
  go_wp2
  go_loopw [7] (fun i wr => ∃ k : Nat, k ≤ n ∧ i = .int .i64 k ∧ Below w.heap.size w wr ∧ TabTo l k) (fun i _ => n - (intOf i).toNat)
  case atStart => exact ⟨0, by omega, rfl, Below.refl _ _, fun i hi => absurd hi (by omega)⟩
  case round =>
    obtain ⟨k, hk, rfl, hbe, htab⟩ := hrel
    have HBE := Lib.hid hbe
    have hbs := hbe.size
    by_cases hlt : k < n
    · obtain ⟨b, off, rfl, hb, hcc⟩ := HR.out (by omega)
      obtain ⟨hc0', hc1'⟩ := hcc k hlt
      have hbw : b < wr.heap.size := by omega
      have hc0 := (hbe.cell (p := ⟨b, off + k * 2, none⟩) hb).trans hc0'
      have hc1 := (hbe.cell (p := ⟨b, off + k * 2 + 1, none⟩) hb).trans hc1'
      have HCC := Lib.hid hcc
      clear hcc hc0' hc1' hbe
      generalize hs : tcS l k = s at hc0
      generalize hq : tcC l k = q at hc1
      have HS := Lib.hid hs
      have HQ := Lib.hid hq
      clear hs hq
      by_cases hq1 : q < 1
      · go_wp2
        go_quiet (fail)
        go_wp2
        go_ret
        refine ⟨ret_bool (isTab_no (k := k) (by rw [HL.out]; exact hlt) (fun h => absurd h (by rw [HQ.out]; omega)) (.inl (by rw [HQ.out]; exact hq1))).symm, ?_⟩
        repeat (first | exact HBE.out | refine below_drewN ?_ _ | refine Below.alloc ?_ (by first | exact HBE.out.size | (have := HBE.out.size; simp; omega)) _ | refine Below.setCell ?_ HBE.out.size _)
      · have hq2 : decide (q < 1) = false := by simpa using hq1
        rcases Nat.eq_zero_or_pos k with h0 | h0
        · subst h0
          have hg : decide ((0 : Int) < ((0 : Nat) : Int)) = false := by decide
          simp only [Nat.zero_mul, Nat.add_zero] at hc0 hc1
          go_wp2
          go_quiet (fail)
          go_wp2
          go_roundw
          case rel =>
            refine ⟨0 + 1, by omega, by go_num, ?_, htab.snoc (by rw [HQ.out]; omega) (fun h => absurd h (by omega))⟩
            repeat (first | exact HBE.out | refine below_drewN ?_ _ | refine Below.alloc ?_ (by first | exact HBE.out.size | (have := HBE.out.size; simp; omega)) _ | refine Below.setCell ?_ HBE.out.size _)
          case measure => simp [intOf]; omega
        · obtain ⟨j, rfl⟩ : ∃ j, k = j + 1 := ⟨k - 1, by omega⟩
          have hcp := (HBE.out.cell (p := ⟨b, off + j * 2, none⟩) hb).trans (HCC.out j (by omega)).1
          generalize hp : tcS l j = p at hcp
          have HP := Lib.hid hp
          clear hp
          have hg : (0 : Int) < (j : Int) + 1 := by omega
          cases hlss : Op.bytesLess p.toList s.toList
          · go_wp2
            go_quiet (fail)
            go_wp2
            go_ret
            refine ⟨ret_bool (isTab_no (k := j + 1) (by rw [HL.out]; exact hlt) (fun _ _ => by rw [Nat.add_sub_cancel, HP.out, HS.out]; exact hlss) (.inr h0)).symm, ?_⟩
            repeat (first | exact HBE.out | refine below_drewN ?_ _ | refine Below.alloc ?_ (by first | exact HBE.out.size | (have := HBE.out.size; simp; omega)) _ | refine Below.setCell ?_ HBE.out.size _)
          · go_wp2
            go_quiet (fail)
            go_wp2
            go_roundw
            case rel =>
              refine ⟨j + 1 + 1, by omega, by go_num, ?_, htab.snoc (by rw [HQ.out]; omega) (fun _ => by rw [Nat.add_sub_cancel, HP.out, HS.out]; exact hlss)⟩
              repeat (first | exact HBE.out | refine below_drewN ?_ _ | refine Below.alloc ?_ (by first | exact HBE.out.size | (have := HBE.out.size; simp; omega)) _ | refine Below.setCell ?_ HBE.out.size _)
            case measure => simp [intOf]; omega
    · have HT := Lib.hid htab
      clear htab
      go_wp2
      go_ret
      exact ⟨ret_bool (isTab_iff.2 (by rw [HL.out, show n = k by omega]; exact HT.out)).symm, hbe⟩

theorem slR_tc {w : World} {B : Nat} {A : Option Addr} {n c : Nat} {l : List (ByteArray × Int)} (h : slR 2 (st2R strR intR) w B l [.slice A n c]) : Rd w B 2 A n (ct l) ∧ (∀ x ∈ l, x.1.size ≤ maxLen) ∧ n ≤ maxLen := by
  have hm := slR_le h
  obtain ⟨_, _, h3, h4⟩ := slR_flat encTC h (fun x e h => by
    obtain ⟨v, u, rfl, h1, h2⟩ := h
    have := h1.1
    have := h2.1
    simp_all [encTC])
  refine ⟨h3, fun x hx => ?_, hm⟩
  obtain ⟨v, u, e, h1, _⟩ := h4 x hx
  exact h1.2
end Go.Proofs.Ytdjagnlmcponaaa
