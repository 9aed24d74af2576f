/- Contracts over slices of ints: toIntS, eqIntS, IsFeatureVector, DominatesFeatures. -/
import Derived.Test.YtjfhlhhobpdneaaIn
namespace Go.Proofs.Ytjfhlhhobpdneaa
open Go.RowKit

/-- a list of ints as cells -/
abbrev ci (zs : List Int) : List Value := zs.map (Value.int .i64)
def nth (zs : List Int) (k : Nat) : Int := zs.getD k 0
theorem Rd.int_at {w : World} {B : Nat} {A : Option Addr} {n k : Nat} {zs : List Int} (h : Rd w B 1 A n (ci zs)) (hk : k < n) :
    ∃ b off, A = some ⟨b, off, none⟩ ∧ b < B ∧ w.cell? ⟨b, off + k, none⟩ = some (.int .i64 (nth zs k)) := by
  obtain ⟨b, off, rfl, hb, hc⟩ := h.2 (by omega)
  have hl := h.1
  simp only [List.length_map, Nat.mul_one] at hl
  exact ⟨b, off, rfl, hb, hc k _ (by simp [nth, List.getD_eq_getElem?_getD, List.getElem?_eq_getElem (show k < zs.length by omega)])⟩
theorem Rd.ci_len {w : World} {B : Nat} {A : Option Addr} {n : Nat} {zs : List Int} (h : Rd w B 1 A n (ci zs)) : zs.length = n := by simpa using h.1
theorem Rd.all_cells {w : World} {B : Nat} {A : Option Addr} {n : Nat} {zs : List Int} (h : Rd w B 1 A n (ci zs)) : 0 < n → ∃ b off, A = some ⟨b, off, none⟩ ∧ b < B ∧ ∀ k, k < n → w.cell? ⟨b, off + k, none⟩ = some (.int .i64 (nth zs k)) := by
  intro hn
  obtain ⟨b, off, rfl, hb, hc⟩ := h.2 hn
  have hl := h.ci_len
  exact ⟨b, off, rfl, hb, fun k hk => hc k _ (by simp [nth, List.getD_eq_getElem?_getD, List.getElem?_eq_getElem (show k < zs.length by omega)])⟩

def isFV (zs : List Int) : Bool := decide (zs.length = 6) && zs.all fun x => inB x 0 1000
theorem fvClosure_any (x : Int) (w : World) : Calls Try.prog 110 #[.int .i64 x] w fun e w' => e = .returned (.bool (!inB x 0 1000)) ∧ w = w' := by
  go_enter Try.func110, Try.ntmps110
  go_wp2_with (go_at_call 73; refine (within_any _ _ _ _).mono ?_; rintro e w' ⟨rfl, rfl⟩)
  go_ret
  exact ⟨rfl, rfl⟩
def idxOut : List Int → Int → Int
  | [], _ => -1
  | x :: l, k => if inB x 0 1000 then idxOut l (k + 1) else k
theorem idxOut_all : ∀ (zs : List Int) (k : Int), 0 ≤ k → decide (0 ≤ idxOut zs k) = !(zs.all fun x => inB x 0 1000)
  | [], k, hk => by simp [idxOut]
  | x :: l, k, hk => by
    cases h : inB x 0 1000
    · simp [idxOut, h, hk]
    · simp [idxOut, h]
      simpa using idxOut_all l (k + 1) (by omega)
theorem idxOut_hit : ∀ (zs : List Int) (k j : Nat), j < zs.length → (∀ i, i < j → inB (nth zs i) 0 1000 = true) → inB (nth zs j) 0 1000 = false → idxOut zs k = ((k + j : Nat) : Int)
  | [], k, j, hj, _, _ => by simp at hj
  | x :: l, k, 0, hj, _, h => by
    have : inB x 0 1000 = false := h
    simp [idxOut, this]
  | x :: l, k, j + 1, hj, h, h' => by
    have hx : inB x 0 1000 = true := h 0 (by omega)
    have := idxOut_hit l (k + 1) j (by simpa using hj) (fun i hi => h (i + 1) (by omega)) h'
    simp only [idxOut, hx, if_true]
    have e : ((k : Int) + 1) = ((k + 1 : Nat) : Int) := by omega
    rw [e, this]
    omega
theorem idxOut_miss : ∀ (zs : List Int) (k : Int), (∀ i, i < zs.length → inB (nth zs i) 0 1000 = true) → idxOut zs k = -1
  | [], k, _ => rfl
  | x :: l, k, h => by
    have hx : inB x 0 1000 = true := h 0 (by simp)
    simp only [idxOut, hx, if_true]
    exact idxOut_miss l (k + 1) fun i hi => h (i + 1) (by simpa using hi)
def AllIn (zs : List Int) (k : Nat) : Prop := ∀ i, i < k → inB (nth zs i) 0 1000 = true
theorem AllIn.snoc {zs : List Int} {k : Nat} (h : AllIn zs k) (h' : inB (nth zs k) 0 1000 = true) : AllIn zs (k + 1) := fun i hi => by
  by_cases e : i = k
  · rw [e]; exact h'
  · exact h i (by omega)
theorem AllIn.isFV {zs : List Int} (h : AllIn zs zs.length) : isFV zs = decide (zs.length = 6) := by
  unfold Proofs.Ytjfhlhhobpdneaa.isFV
  have : (zs.all fun x => inB x 0 1000) = true := by
    rw [List.all_eq_true]
    intro x hx
    obtain ⟨i, hi, rfl⟩ := List.getElem_of_mem hx
    have := h i hi
    simpa [nth, List.getD_eq_getElem?_getD, hi] using this
  rw [this, Bool.and_true]
theorem isFV_no {zs : List Int} {k : Nat} (hk : k < zs.length) (h : inB (nth zs k) 0 1000 = false) : isFV zs = false := by
  unfold isFV
  have : (zs.all fun x => inB x 0 1000) = false := by
    rw [← Bool.not_eq_true]
    intro ha
    rw [List.all_eq_true] at ha
    have h2 := ha zs[k] (List.getElem_mem hk)
    simp [nth, List.getD_eq_getElem?_getD, hk] at h
    simp only [h2] at h
    cases h
  rw [this, Bool.and_false]

theorem IndexFunc_fv (A : Option Addr) (n c : Nat) (zs : List Int) (w : World) (hr : Rd w w.heap.size 1 A n (ci zs)) (hn : n ≤ 1048576) :
    Calls Try.prog 125 #[.slice A n c, .func (.func 110) #[] #[]] w fun e w' => e = .returned (.int .i64 (idxOut zs 0)) ∧ w = w' := by
  have HL := Lib.hid hr.ci_len
  have HR := Lib.hid hr
  clear hr
  go_enter Try.func125, Try.ntmps125
  go_wp2
  go_loop [8] (fun i => ∃ k : Nat, k ≤ n ∧ i = .int .i64 k ∧ AllIn zs k) (fun i => n - (intOf i).toNat)
  case atStart => exact ⟨0, by omega, rfl, fun i hi => absurd hi (by omega)⟩
  case round =>
    obtain ⟨k, hk, rfl, hall⟩ := hrel
    by_cases hlt : k < n
    · obtain ⟨b, off, rfl, hb, hc⟩ := HR.out.int_at hlt
      generalize hx : nth zs k = x at hc
      have HX := Lib.hid hx
      clear hx
      cases hin : inB x 0 1000
      · have hb' := hin
        go_wp2_with (go_at_call 110; refine (fvClosure_any _ _).mono ?_; rintro e w' ⟨rfl, rfl⟩)
        go_ret
        exact ⟨ret_int (by rw [show (0 : Int) = ((0 : Nat) : Int) from rfl, idxOut_hit zs 0 k (by have := HL.out; omega) hall (by rw [HX.out]; exact hin)]; simp), rfl⟩
      · go_wp2_with (go_at_call 110; refine (fvClosure_any _ _).mono ?_; rintro e w' ⟨rfl, rfl⟩)
        go_round
        case rel => exact ⟨k + 1, by omega, by go_num, hall.snoc (by rw [HX.out]; exact hin)⟩
        case measure => simp [intOf]; omega
    · go_wp2
      go_ret
      exact ⟨ret_int (by rw [idxOut_miss zs 0 (fun i hi => hall i (by have := HL.out; omega))]), rfl⟩
theorem ContainsFunc_fv (A : Option Addr) (n c : Nat) (zs : List Int) (w : World) (hr : Rd w w.heap.size 1 A n (ci zs)) (hn : n ≤ 1048576) :
    Calls Try.prog 109 #[.slice A n c, .func (.func 110) #[] #[]] w fun e w' => e = .returned (.bool (!(zs.all fun x => inB x 0 1000))) ∧ w = w' := by
  have HI := Lib.hid (idxOut_all zs 0 (by omega))
  go_enter Try.func109, Try.ntmps109
  go_wp2_with (go_at_call 125; refine (IndexFunc_fv _ _ _ zs _ hr hn).mono ?_; rintro e w' ⟨rfl, rfl⟩)
  go_ret
  exact ⟨ret_bool HI.out, rfl⟩
theorem IsFeatureVector_any (A : Option Addr) (n c : Nat) (zs : List Int) (w : World) (hr : Rd w w.heap.size 1 A n (ci zs)) (hn : n ≤ 1048576) :
    Calls Try.prog 65 #[.slice A n c] w fun e w' => e = .returned (.bool (isFV zs)) ∧ w = w' := by
  have hl := hr.ci_len
  by_cases h6 : n = 6
  · subst h6
    have hv : isFV zs = (zs.all fun x => inB x 0 1000) := by unfold isFV; rw [hl]; rfl
    have HV := Lib.hid hv
    clear hv hl
    generalize hz : (zs.all fun x => inB x 0 1000) = z at HV
    have HZ := Lib.hid hz
    clear hz
    go_enter Try.func65, Try.ntmps65
    go_wp2_with (go_at_call 109; refine (ContainsFunc_fv _ _ _ zs _ hr hn).mono ?_; rw [HZ.out]; rintro e w' ⟨rfl, rfl⟩)
    go_ret
    exact ⟨ret_bool (by rw [HV.out]), rfl⟩
  · have hv : isFV zs = false := by unfold isFV; rw [hl]; simp [h6]
    have HV := Lib.hid hv
    have h6' : ((n : Int) == 6) = false := by simp; omega
    clear hv hl h6 hr
    go_enter Try.func65, Try.ntmps65
    go_wp2_with fail
    go_ret
    exact ⟨ret_bool (by rw [HV.out]), rfl⟩
theorem sIsFeatureVector_any (A : Option Addr) (n c : Nat) (zs : List Int) (w : World) (hr : Rd w w.heap.size 1 A n (ci zs)) (hn : n ≤ 1048576) :
    Calls Try.prog 63 #[.slice A n c] w fun e w' => e = .returned (.bool (isFV zs)) ∧ w = w' := by
  have HL := Lib.hid hr.ci_len
  have HR := Lib.hid hr
  clear hr
  go_enter Try.func63, Try.ntmps63
  go_wp2
  go_loop [3] (fun i => ∃ k : Nat, k ≤ n ∧ i = .int .i64 k ∧ AllIn zs k) (fun i => n - (intOf i).toNat)
  case atStart => exact ⟨0, by omega, rfl, fun i hi => absurd hi (by omega)⟩
  case round =>
    obtain ⟨k, hk, rfl, hall⟩ := hrel
    by_cases hlt : k < n
    · obtain ⟨b, off, rfl, hb, hc⟩ := HR.out.int_at hlt
      generalize hx : nth zs k = x at hc
      have HX := Lib.hid hx
      clear hx
      cases hin : inB x 0 1000
      · go_wp2_with (go_at_call 70; refine (sIn_any _ _ _ _).mono ?_; rintro e w' ⟨rfl, rfl⟩)
        go_ret
        exact ⟨ret_bool (isFV_no (k := k) (by have := HL.out; omega) (by rw [HX.out]; exact hin)).symm, rfl⟩
      · go_wp2_with (go_at_call 70; refine (sIn_any _ _ _ _).mono ?_; rintro e w' ⟨rfl, rfl⟩)
        go_round
        case rel => exact ⟨k + 1, by omega, by go_num, hall.snoc (by rw [HX.out]; exact hin)⟩
        case measure => simp [intOf]; omega
    · have e : k = zs.length := by have := HL.out; omega
      go_wp2
      go_ret
      refine ⟨ret_bool ?_, rfl⟩
      rw [AllIn.isFV (by rw [← e]; exact hall)]
      have := HL.out
      rw [Bool.eq_iff_iff]
      simp
      omega

/-! ### toIntS, eqIntS -/
theorem info_int : (Try.prog.info? 3).map (fun i => (i.zero, i.size, i.bytes)) = some (some (.int .i64 0), 1, 8) := by kernel_rfl
theorem toIntS_any (A : Option Addr) (n c : Nat) (zs : List Int) (w : World) (hr : Rd w w.heap.size 1 A n (ci zs)) (hn : n ≤ 1048576) :
    Calls Try.prog 18 #[.slice A n c] w fun e w' => e = .returned (.slice (some ⟨w.heap.size, 0, none⟩) n n) ∧ Blk w' w.heap.size 3 (ci zs).toArray ∧ w.heap.size < w'.heap.size ∧ Below w.heap.size w w' := by
  have HR := Lib.hid hr
  have HL := Lib.hid hr.ci_len
  clear hr
  have hmk := mk_any (P := Try.prog) 25 3 (.int .i64 0) 1 8 n Try.underlying25 info_int (by omega) (by omega)
  go_enter Try.func18, Try.ntmps18
  go_wp2
  clear hmk
  go_loopw [4] (fun i wr => ∃ k : Nat, k ≤ n ∧ i = .int .i64 k ∧ w.heap.size < wr.heap.size ∧ Below w.heap.size w wr ∧
      ∃ cs : Array Value, Blk wr w.heap.size 3 cs ∧ cs.size = n ∧ ∀ j, j < k → cs[j]? = (ci zs)[j]?) (fun i _ => n - (intOf i).toNat)
  case atStart => exact ⟨0, by omega, rfl, by simp, (Below.refl _ _).alloc (Nat.le_refl _) _, _, Blk.new _ _ _, by simp [size_madeCells], fun j hj => absurd hj (by omega)⟩
  case round =>
    obtain ⟨k, hk, rfl, hsz, hb, cs, hB, hcs, hz⟩ := hrel
    by_cases hlt : k < n
    · obtain ⟨b, off, rfl, hbb, hc⟩ := HR.out.int_at hlt
      have hlz : k < zs.length := by have := HL.out; omega
      have hsrc : wr.cell? ⟨b, off + k, none⟩ = some (.int .i64 (nth zs k)) := by
        rw [hb.cell (p := ⟨b, off + k, none⟩) hbb]; exact hc
      have hdst : wr.cell? ⟨w.heap.size, k, none⟩ = some cs[k] := by rw [hB.cell]; simp [hcs, hlt]
      have hfz := hB.frozen k
      have HB := Lib.hid hB
      have HZ := Lib.hid hz
      have HCS := Lib.hid hcs
      have HBE := Lib.hid hb
      clear hB hz hc hb
      go_wp2
      go_roundw
      case rel =>
        refine ⟨k + 1, by omega, by go_num, by simpa [World.setCell] using hsz, HBE.out.setCell (Nat.le_refl _) _, _, HB.out.put _ _, by simpa using HCS.out, fun j hj => ?_⟩
        by_cases hjk : j = k
        · subst hjk
          simp [hlz, HCS.out, hlt, nth, List.getD_eq_getElem?_getD]
        · rw [Array.getElem?_setIfInBounds_ne (by omega)]
          exact HZ.out j (by omega)
      case measure => simp [intOf]; omega
    · have HB := Lib.hid hB
      have HZ := Lib.hid hz
      have HCS := Lib.hid hcs
      clear hB hz hcs
      go_wp2
      go_ret
      refine ⟨rfl, ?_, hsz, hb⟩
      have : cs = (ci zs).toArray := by
        apply Array.ext_getElem?
        intro j
        by_cases hj : j < k
        · rw [HZ.out j hj]
          simp
        · have h1 := HCS.out
          have h2 := HL.out
          rw [Array.getElem?_eq_none (by omega), Array.getElem?_eq_none (by simp; omega)]
      rw [← this]
      exact HB.out
/-- the slice that toIntS made reads as its list -/
theorem rd_new {w' : World} {g B : Nat} {t : TypeId} {zs : List Int} {n : Nat} (h : Blk w' g t (ci zs).toArray) (hl : zs.length = n) (hg : g < B) : Rd w' B 1 (some ⟨g, 0, none⟩) n (ci zs) := by
  subst hl
  exact Rd.of_blk h hg (by rw [List.take_of_length_le (by simp)]) (by simp)

def SameTo (xs ys : List Int) (k : Nat) : Prop := ∀ i, i < k → nth xs i = nth ys i
theorem SameTo.snoc {xs ys : List Int} {k : Nat} (h : SameTo xs ys k) (h' : nth xs k = nth ys k) : SameTo xs ys (k + 1) := fun i hi => by
  by_cases e : i = k
  · rw [e]
    exact h'
  · exact h i (by omega)
theorem SameTo.eq {xs ys : List Int} (h : SameTo xs ys xs.length) (hl : xs.length = ys.length) : xs = ys := by
  apply List.ext_getElem hl
  intro i h1 h2
  have := h i h1
  simpa [nth, List.getD_eq_getElem?_getD, h1, h2] using this
theorem eqIntS_any (A A' : Option Addr) (n n' c c' : Nat) (xs ys : List Int) (w : World) (hr : Rd w w.heap.size 1 A n (ci xs)) (hr' : Rd w w.heap.size 1 A' n' (ci ys)) (hn : n ≤ 1048576) (hn' : n' ≤ 1048576) :
    Calls Try.prog 21 #[.slice A n c, .slice A' n' c'] w fun e w' => e = .returned (.bool (decide (xs = ys))) ∧ ∃ k, w' = w.drewN k := by
  have HL := Lib.hid hr.ci_len
  have HL' := Lib.hid hr'.ci_len
  have HR := Lib.hid hr
  have HR' := Lib.hid hr'
  clear hr hr'
  by_cases hnn : n = n'
  · subst hnn
    go_enter Try.func21, Try.ntmps21
    go_wp2
    go_loopw [5] (fun i wr => ∃ k d : Nat, k ≤ n ∧ i = .int .i64 k ∧ wr = w.drewN d ∧ SameTo xs ys k) (fun i _ => n - (intOf i).toNat)
    case atStart => exact ⟨0, 0, by omega, rfl, rfl, fun i hi => absurd hi (by omega)⟩
    case round =>
      obtain ⟨k, d, hk, rfl, rfl, hsm⟩ := hrel
      by_cases hlt : k < n
      · obtain ⟨b, off, rfl, hb, hc⟩ := HR.out.int_at hlt
        obtain ⟨b', off', rfl, hb', hc'⟩ := HR'.out.int_at hlt
        generalize hx : nth xs k = x at hc
        generalize hy : nth ys k = y at hc'
        have HX := Lib.hid hx
        have HY := Lib.hid hy
        clear hx hy
        by_cases hxy : x = y
        · subst hxy
          go_wp2
          go_quiet (fail)
          go_wp2
          go_roundw
          case rel => exact ⟨k + 1, _, by omega, by go_num, rfl, hsm.snoc (by rw [HX.out, HY.out])⟩
          case measure => simp [intOf]; omega
        · have h1 : (x == y) = false := by simpa using hxy
          have h2 : (x != y) = true := by simpa using hxy
          have HN := Lib.hid hxy
          clear hxy
          go_wp2
          go_quiet (fail)
          go_wp2
          go_ret
          refine ⟨ret_bool ?_, _, World.drewN_drewN _ _ _⟩
          rw [eq_comm, decide_eq_false_iff_not]
          rintro rfl
          exact HN.out (HX.out.symm.trans HY.out)
      · have e : k = n := by omega
        have HS := Lib.hid hsm
        clear hsm
        subst e
        go_wp2
        go_ret
        refine ⟨ret_bool ?_, _, rfl⟩
        rw [eq_comm, decide_eq_true_iff]
        have h1 := HL.out
        have h2 := HL'.out
        exact SameTo.eq (by rw [h1]; exact HS.out) (by omega)
  · have h1 : ((n : Int) == (n' : Int)) = false := by simp; omega
    have h2 : ((n : Int) != (n' : Int)) = true := by simp; omega
    have HN := Lib.hid hnn
    clear hnn
    go_enter Try.func21, Try.ntmps21
    go_wp2
    go_ret
    refine ⟨ret_bool ?_, 0, rfl⟩
    rw [eq_comm, decide_eq_false_iff_not]
    rintro rfl
    exact HN.out (HL.out.symm.trans HL'.out)

theorem eqIntS_b (A A' : Option Addr) (n n' c c' : Nat) (xs ys : List Int) (w : World) (hr : Rd w w.heap.size 1 A n (ci xs)) (hr' : Rd w w.heap.size 1 A' n' (ci ys)) (hn : n ≤ 1048576) (hn' : n' ≤ 1048576) :
    Calls Try.prog 21 #[.slice A n c, .slice A' n' c'] w fun e w' => e = .returned (.bool (decide (xs = ys))) ∧ Below w.heap.size w w' :=
  (eqIntS_any A A' n n' c c' xs ys w hr hr' hn hn').mono fun _ _ ⟨he, k, hk⟩ => ⟨he, hk ▸ below_drewN (Below.refl _ _) k⟩
theorem isFV_len {zs : List Int} (h : isFV zs = true) : zs.length = 6 := by
  unfold isFV at h
  simp only [Bool.and_eq_true, decide_eq_true_iff] at h
  exact h.1
end Go.Proofs.Ytjfhlhhobpdneaa
