/- Contracts over slices of Test: toTestS, eqTestS. Written by a program of this workplace (genflat.py). -/
import Derived.Test.YtjfhlhhobpdneaaProg
import Derived.Test.YtjfhlhhobpdneaaMem
import Derived.Test.YtjfhlhhobpdneaaRep
import Derived.StillTailTactics
namespace Go.Proofs.Ytjfhlhhobpdneaa
open Go.RowKit

def encte (x : Int × Int × Bool) : List Value := [.int .i64 x.1, .int .i64 x.2.1, .bool x.2.2]
def cte (l : List (Int × Int × Bool)) : List Value := l.flatMap encte
def te0 (l : List (Int × Int × Bool)) (k : Nat) : Int := (l.getD k (0, 0, false)).1
def te1 (l : List (Int × Int × Bool)) (k : Nat) : Int := (l.getD k (0, 0, false)).2.1
def te2 (l : List (Int × Int × Bool)) (k : Nat) : Bool := (l.getD k (0, 0, false)).2.2
theorem cte_len (l : List (Int × Int × Bool)) : (cte l).length = l.length * 3 := flatMap_len (k := 3) (enc := encte) (fun _ => rfl) l
theorem cte_at0 (l : List (Int × Int × Bool)) (i : Nat) (h : i < l.length) : (cte l)[i * 3]? = some (.int .i64 (te0 l i)) := by
  have := flatMap_at (k := 3) (enc := encte) (fun _ => rfl) l i 0 (by omega)
  rw [Nat.add_zero] at this
  unfold cte
  rw [this, List.getElem?_eq_getElem h]
  simp [encte, te0, h]
theorem cte_at1 (l : List (Int × Int × Bool)) (i : Nat) (h : i < l.length) : (cte l)[i * 3 + 1]? = some (.int .i64 (te1 l i)) := by
  have := flatMap_at (k := 3) (enc := encte) (fun _ => rfl) l i 1 (by omega)
  unfold cte
  rw [this, List.getElem?_eq_getElem h]
  simp [encte, te1, h]
theorem cte_at2 (l : List (Int × Int × Bool)) (i : Nat) (h : i < l.length) : (cte l)[i * 3 + 2]? = some (.bool (te2 l i)) := by
  have := flatMap_at (k := 3) (enc := encte) (fun _ => rfl) l i 2 (by omega)
  unfold cte
  rw [this, List.getElem?_eq_getElem h]
  simp [encte, te2, h]
theorem Rd.te_len {w : World} {B : Nat} {A : Option Addr} {n : Nat} {l : List (Int × Int × Bool)} (h : Rd w B 3 A n (cte l)) : l.length = n := by
  have := h.1
  rw [cte_len] at this
  omega
theorem Rd.te_cells {w : World} {B : Nat} {A : Option Addr} {n : Nat} {l : List (Int × Int × Bool)} (h : Rd w B 3 A n (cte l)) : 0 < n → ∃ b off, A = some ⟨b, off, none⟩ ∧ b < B ∧
    ∀ k, k < n → w.cell? ⟨b, off + k * 3, none⟩ = some (.int .i64 (te0 l k)) ∧ w.cell? ⟨b, off + k * 3 + 1, none⟩ = some (.int .i64 (te1 l k)) ∧ w.cell? ⟨b, off + k * 3 + 2, none⟩ = some (.bool (te2 l k)) := by
  intro hn
  obtain ⟨b, off, rfl, hb, hc⟩ := h.2 hn
  have hl := h.te_len
  exact ⟨b, off, rfl, hb, fun k hk => ⟨hc _ _ (cte_at0 l k (by omega)), by rw [Nat.add_assoc]; exact hc _ _ (cte_at1 l k (by omega)), by rw [Nat.add_assoc]; exact hc _ _ (cte_at2 l k (by omega))⟩⟩
theorem slR_te {w : World} {B : Nat} {A : Option Addr} {n c : Nat} {l : List (Int × Int × Bool)} (h : slR 3 (st3R intR intR boolR) w B l [.slice A n c]) : Rd w B 3 A n (cte l) ∧ n ≤ maxLen := by
  have hm := slR_le h
  obtain ⟨_, _, h3, _⟩ := slR_flat encte h (fun x e h => by
    obtain ⟨v0, v1, v2, rfl, h0, h1, h2⟩ := h
    simp_all [encte, boolR, intR])
  exact ⟨h3, hm⟩

theorem toTest_any (p0 : Int) (p1 : Int) (p2 : Bool) (w : World) : Calls Try.prog 108 #[.agg #[.int .i64 p0, .int .i64 p1, .bool p2]] w fun e w' => e = .returned (.agg #[.int .i64 p0, .int .i64 p1, .bool p2]) ∧ Below w.heap.size w w' := by
  go_enter Try.func108, Try.ntmps108
  go_wp2
  refine bodyPost_ret (v := .agg #[.int .i64 p0, .int .i64 p1, .bool p2]) (by simp [results, Try.results108, go_sem]) rfl ⟨rfl, ?_⟩
  repeat (first | exact Below.refl _ _ | refine Below.alloc ?_ (by first | omega | (simp; done) | (simp; omega)) _ | refine Below.setCell ?_ (by first | omega | (simp; done) | (simp; omega)) _ | refine below_drewN ?_ _)
theorem info_te : (Try.prog.info? 85).map (fun i => (i.zero, i.size, i.bytes)) = some (some (.agg #[.int .i64 0, .int .i64 0, .bool false]), 3, 24) := by kernel_rfl
theorem toTestS_any (A : Option Addr) (n c : Nat) (l : List (Int × Int × Bool)) (w : World) (hr : Rd w w.heap.size 3 A n (cte l)) (hn : n ≤ 1048576) :
    Calls Try.prog 64 #[.slice A n c] w fun e w' => e = .returned (.slice (some ⟨w.heap.size, 0, none⟩) n n) ∧ Blk w' w.heap.size 85 (cte l).toArray ∧ w.heap.size < w'.heap.size ∧ Below w.heap.size w w' := by
  have HR := Lib.hid hr.te_cells
  have HL := Lib.hid hr.te_len
  clear hr
  have hmk := mk_any (P := Try.prog) 28 85 (.agg #[.int .i64 0, .int .i64 0, .bool false]) 3 24 n Try.underlying28 info_te (by omega) (by omega)
  go_enter Try.func64, Try.ntmps64
  go_wp2
  clear hmk
  go_loopw [4] (fun i wr => ∃ k : Nat, k ≤ n ∧ i = .int .i64 k ∧ w.heap.size < wr.heap.size ∧ Below w.heap.size w wr ∧
      ∃ cs : Array Value, Blk wr w.heap.size 85 cs ∧ cs.size = n * 3 ∧ Filled cs (k * 3) (cte l)) (fun i _ => n - (intOf i).toNat)
  case atStart => exact ⟨0, by omega, rfl, by simp, (Below.refl _ _).alloc (Nat.le_refl _) _, _, Blk.new _ _ _, by simp [size_madeCells], fun j hj => absurd hj (by omega)⟩
  case round =>
    obtain ⟨k, hk, rfl, hsz, hb, cs, hB, hcs, hz⟩ := hrel
    by_cases hlt : k < n
    · obtain ⟨b, off, rfl, hbb, hcc⟩ := HR.out (by omega)
      obtain ⟨hc0, hc1, hc2⟩ := hcc k hlt
      have e0 := (hb.cell (p := ⟨b, off + k * 3, none⟩) hbb).trans hc0
      have e1 := (hb.cell (p := ⟨b, off + k * 3 + 1, none⟩) hbb).trans hc1
      have e2 := (hb.cell (p := ⟨b, off + k * 3 + 2, none⟩) hbb).trans hc2
      have HB := Lib.hid hB
      have HZ := Lib.hid hz
      have HCS := Lib.hid hcs
      have HBE := Lib.hid hb
      clear hB hz hcc hc0 hc1 hc2 hb hcs
      go_wp2_with fail
      refine (toTest_any _ _ _ _).mono ?_
      rintro e w1 ⟨rfl, hb1⟩
      have hB1 := HB.out.below hb1 hsz
      obtain ⟨o0, ho0⟩ := get_some (cs := cs) (i := k * 3) (by rw [HCS.out]; omega)
      obtain ⟨o1, ho1⟩ := get_some (cs := cs) (i := k * 3 + 1) (by rw [HCS.out]; omega)
      obtain ⟨o2, ho2⟩ := get_some (cs := cs) (i := k * 3 + 2) (by rw [HCS.out]; omega)
      have hd0 := (hB1.cell (k * 3)).trans ho0
      have hf0 := hB1.frozen (k * 3)
      have hd1 := (hB1.cell (k * 3 + 1)).trans ho1
      have hf1 := hB1.frozen (k * 3 + 1)
      have hd2 := (hB1.cell (k * 3 + 2)).trans ho2
      have hf2 := hB1.frozen (k * 3 + 2)
      clear ho0 ho1 ho2
      have HB1 := Lib.hid hB1
      clear hB1
      go_wp2
      go_roundw
      case rel =>
        have f1 := (Filled.put (u := .bool (te2 l k)) (Filled.put (u := .int .i64 (te1 l k)) (Filled.put (u := .int .i64 (te0 l k)) HZ.out (by rw [HCS.out]; omega) (cte_at0 l k (by have := HL.out; omega))) (by simp only [Array.size_setIfInBounds]; rw [HCS.out]; omega) (cte_at1 l k (by have := HL.out; omega))) (by simp only [Array.size_setIfInBounds]; rw [HCS.out]; omega) (cte_at2 l k (by have := HL.out; omega)))
        exact ⟨k + 1, by omega, by go_num, Nat.lt_of_lt_of_le hsz (by simpa [World.setCell] using hb1.size), ((((HBE.out.trans (hb1.mono (by omega))).setCell (Nat.le_refl _) _).setCell (Nat.le_refl _) _).setCell (Nat.le_refl _) _), _, (((HB1.out.put _ _).put _ _).put _ _), by simpa using HCS.out,
          by rw [show (k + 1) * 3 = k * 3 + 1 + 1 + 1 from by omega]; exact f1⟩
      case measure => simp [intOf]; omega
    · have HB := Lib.hid hB
      have HZ := Lib.hid hz
      have HCS := Lib.hid hcs
      clear hB hz hcs
      have e : k = n := by omega
      subst e
      go_wp2
      go_ret
      refine ⟨rfl, ?_, hsz, hb⟩
      rw [← HZ.out.whole HCS.out (by rw [cte_len, HL.out])]
      exact HB.out

theorem eqTest_any (p0 : Int) (p1 : Int) (p2 : Bool) (q0 : Int) (q1 : Int) (q2 : Bool) (w : World) : Calls Try.prog 98 #[.agg #[.int .i64 p0, .int .i64 p1, .bool p2], .agg #[.int .i64 q0, .int .i64 q1, .bool q2]] w fun e w' =>
    e = .returned (.bool (decide (p0 = q0 ∧ p1 = q1 ∧ p2 = q2))) ∧ Below w.heap.size w w' := by
  by_cases he0 : p0 = q0
  case neg =>
    rw [decide_eq_false (fun h => he0 h.1)]
    have hx : (p0 == q0) = false := by simpa using he0
    have hy : (p0 != q0) = true := by simpa using he0
    clear he0
    go_enter Try.func98, Try.ntmps98
    go_wp2
    go_ret
    refine ⟨rfl, ?_⟩
    repeat (first | exact Below.refl _ _ | refine Below.alloc ?_ (by first | omega | (simp; done) | (simp; omega)) _)
  subst he0
  by_cases he1 : p1 = q1
  case neg =>
    rw [decide_eq_false (fun h => he1 h.2.1)]
    have hx : (p1 == q1) = false := by simpa using he1
    have hy : (p1 != q1) = true := by simpa using he1
    clear he1
    go_enter Try.func98, Try.ntmps98
    go_wp2
    go_ret
    refine ⟨rfl, ?_⟩
    repeat (first | exact Below.refl _ _ | refine Below.alloc ?_ (by first | omega | (simp; done) | (simp; omega)) _)
  subst he1
  by_cases he2 : p2 = q2
  case neg =>
    rw [decide_eq_false (fun h => he2 h.2.2)]
    cases p2 <;> cases q2 <;> first | exact absurd rfl he2 | skip
    all_goals
      clear he2
      go_enter Try.func98, Try.ntmps98
      go_wp2
      go_ret
      refine ⟨rfl, ?_⟩
      repeat (first | exact Below.refl _ _ | refine Below.alloc ?_ (by first | omega | (simp; done) | (simp; omega)) _)
  subst he2
  rw [decide_eq_true ⟨rfl, rfl, rfl⟩]
  cases p2
  all_goals
    go_enter Try.func98, Try.ntmps98
    go_wp2
    go_ret
    refine ⟨rfl, ?_⟩
    repeat (first | exact Below.refl _ _ | refine Below.alloc ?_ (by first | omega | (simp; done) | (simp; omega)) _)

def Samete (xs ys : List (Int × Int × Bool)) (k : Nat) : Prop := ∀ i, i < k → te0 xs i = te0 ys i ∧ te1 xs i = te1 ys i ∧ te2 xs i = te2 ys i
theorem Samete.snoc {xs ys : List (Int × Int × Bool)} {k : Nat} (h : Samete xs ys k) (h' : te0 xs k = te0 ys k ∧ te1 xs k = te1 ys k ∧ te2 xs k = te2 ys k) : Samete xs ys (k + 1) := fun i hi => by
  by_cases e : i = k
  · rw [e]
    exact h'
  · exact h i (by omega)
theorem Samete.eq {xs ys : List (Int × Int × Bool)} (h : Samete xs ys xs.length) (hl : xs.length = ys.length) : xs = ys := by
  apply List.ext_getElem hl
  intro i h1 h2
  have := h i h1
  simp only [te0, te1, te2, List.getD_eq_getElem?_getD, List.getElem?_eq_getElem h1, List.getElem?_eq_getElem h2, Option.getD_some] at this
  exact (Prod.ext this.1 (Prod.ext this.2.1 this.2.2))
set_option maxRecDepth 100000 in
theorem eqTestS_any (A A' : Option Addr) (n n' c c' : Nat) (xs ys : List (Int × Int × Bool)) (w : World) (hr : Rd w w.heap.size 3 A n (cte xs)) (hr' : Rd w w.heap.size 3 A' n' (cte ys)) (hn : n ≤ 1048576) (hn' : n' ≤ 1048576) :
    Calls Try.prog 47 #[.slice A n c, .slice A' n' c'] w fun e w' => e = .returned (.bool (decide (xs = ys))) ∧ Below w.heap.size w w' := by
  have HL := Lib.hid hr.te_len
  have HL' := Lib.hid hr'.te_len
  have HR := Lib.hid hr.te_cells
  have HR' := Lib.hid hr'.te_cells
  clear hr hr'
  by_cases hnn : n = n'
  · subst hnn
    go_enter Try.func47, Try.ntmps47
    go_wp2
    go_loopw [5] (fun i wr => ∃ k : Nat, k ≤ n ∧ i = .int .i64 k ∧ Below w.heap.size w wr ∧ Samete xs ys k) (fun i _ => n - (intOf i).toNat)
    case atStart => exact ⟨0, by omega, rfl, Below.refl _ _, fun i hi => absurd hi (by omega)⟩
    case round =>
      obtain ⟨k, hk, rfl, hbe, hsm⟩ := hrel
      have HBE := Lib.hid hbe
      by_cases hlt : k < n
      · obtain ⟨b, off, rfl, hb, hcc⟩ := HR.out (by omega)
        obtain ⟨b', off', rfl, hb', hcc'⟩ := HR'.out (by omega)
        obtain ⟨hc0, hc1, hc2⟩ := hcc k hlt
        obtain ⟨hd0, hd1, hd2⟩ := hcc' k hlt
        have e0 := (hbe.cell (p := ⟨b, off + k * 3, none⟩) hb).trans hc0
        have g0 := (hbe.cell (p := ⟨b', off' + k * 3, none⟩) hb').trans hd0
        have e1 := (hbe.cell (p := ⟨b, off + k * 3 + 1, none⟩) hb).trans hc1
        have g1 := (hbe.cell (p := ⟨b', off' + k * 3 + 1, none⟩) hb').trans hd1
        have e2 := (hbe.cell (p := ⟨b, off + k * 3 + 2, none⟩) hb).trans hc2
        have g2 := (hbe.cell (p := ⟨b', off' + k * 3 + 2, none⟩) hb').trans hd2
        clear hcc hcc' hc0 hd0 hc1 hd1 hc2 hd2 hbe
        generalize hs0 : te0 xs k = p0 at e0
        generalize ht0 : te0 ys k = q0 at g0
        have HS0 := Lib.hid hs0
        have HT0 := Lib.hid ht0
        clear hs0 ht0
        generalize hs1 : te1 xs k = p1 at e1
        generalize ht1 : te1 ys k = q1 at g1
        have HS1 := Lib.hid hs1
        have HT1 := Lib.hid ht1
        clear hs1 ht1
        generalize hs2 : te2 xs k = p2 at e2
        generalize ht2 : te2 ys k = q2 at g2
        have HS2 := Lib.hid hs2
        have HT2 := Lib.hid ht2
        clear hs2 ht2
        by_cases heq : p0 = q0 ∧ p1 = q1 ∧ p2 = q2
        · have HD : Hid (decide (p0 = q0 ∧ p1 = q1 ∧ p2 = q2) = true) := decide_eq_true heq
          have HE := Lib.hid heq
          clear heq
          go_wp2_with fail
          go_still_tail 8, (by kernel_rfl)
          change wpList _ _ _ _ _ wr.drew
          have hbd := HBE.out.drew
          generalize wr.drew = w2 at hbd ⊢
          go_wp2_with (go_at_call 98; refine (eqTest_any _ _ _ _ _ _ _).mono ?_; rw [HD.out]; rintro e w3 ⟨rfl, hb3⟩)
          go_roundw
          case rel => exact ⟨k + 1, by omega, by go_num, hbd.trans (hb3.mono hbd.size), hsm.snoc ⟨by rw [HS0.out, HT0.out, HE.out.1], by rw [HS1.out, HT1.out, HE.out.2.1], by rw [HS2.out, HT2.out, HE.out.2.2]⟩⟩
          case measure => simp [intOf]; omega
        · have HD : Hid (decide (p0 = q0 ∧ p1 = q1 ∧ p2 = q2) = false) := decide_eq_false heq
          have HE := Lib.hid heq
          clear heq
          go_wp2_with fail
          go_still_tail 8, (by kernel_rfl)
          change wpList _ _ _ _ _ wr.drew
          have hbd := HBE.out.drew
          generalize wr.drew = w2 at hbd ⊢
          go_wp2_with (go_at_call 98; refine (eqTest_any _ _ _ _ _ _ _).mono ?_; rw [HD.out]; rintro e w3 ⟨rfl, hb3⟩)
          go_ret
          refine ⟨ret_bool ?_, hbd.trans (hb3.mono hbd.size)⟩
          rw [eq_comm, decide_eq_false_iff_not]
          rintro rfl
          exact HE.out ⟨HS0.out.symm.trans HT0.out, HS1.out.symm.trans HT1.out, HS2.out.symm.trans HT2.out⟩
      · have e : k = n := by omega
        have HS := Lib.hid hsm
        clear hsm
        subst e
        go_wp2
        go_ret
        refine ⟨ret_bool ?_, hbe⟩
        rw [eq_comm, decide_eq_true_iff]
        have h1 := HL.out
        have h2 := HL'.out
        exact Samete.eq (by rw [h1]; exact HS.out) (by omega)
  · have h1 : ((n : Int) == (n' : Int)) = false := by simp; omega
    have h2 : ((n : Int) != (n' : Int)) = true := by simp; omega
    have HN := Lib.hid hnn
    clear hnn
    go_enter Try.func47, Try.ntmps47
    go_wp2
    go_ret
    refine ⟨ret_bool ?_, Below.refl _ _⟩
    rw [eq_comm, decide_eq_false_iff_not]
    rintro rfl
    exact HN.out (HL.out.symm.trans HL'.out)
end Go.Proofs.Ytjfhlhhobpdneaa
