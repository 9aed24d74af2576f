/- Contracts over rules and rule sets: eqRule, eqRuleS, eqRuleSet. -/
import Derived.Test.YtjfhlhhobpdneaaRule
namespace Go.Proofs.Ytjfhlhhobpdneaa
open Go.RowKit

theorem eqRule_any (A A' : Option Addr) (n n' c c' : Nat) (xs ys : List TeD) (w : World) (hr : Rd w w.heap.size 3 A n (cte xs)) (hr' : Rd w w.heap.size 3 A' n' (cte ys)) (hn : n ≤ 1048576) (hn' : n' ≤ 1048576) :
    Calls Try.prog 20 #[.agg #[.slice A n c], .agg #[.slice A' n' c']] w fun e w' => e = .returned (.bool (decide (xs = ys))) ∧ Below w.heap.size w w' := by
  have hb0 : Below w.heap.size w ((w.alloc (.cells #[.slice A n c] 30)).alloc (.cells #[.slice A' n' c'] 30)) := by
    repeat (first | exact Below.refl _ _ | refine Below.alloc ?_ (by first | omega | (simp; done) | (simp; omega)) _)
  have hr0 := (hr.below hb0).more hb0.size
  have hr0' := (hr'.below hb0).more hb0.size
  have HC := Lib.hid (eqTestS_any _ _ _ _ c c' _ _ _ hr0 hr0' hn hn')
  have HB0 := Lib.hid hb0
  clear hr hr' hr0 hr0' hb0
  cases hxy : decide (xs = ys)
  all_goals
    rw [hxy] at HC
    clear hxy
    go_enter Try.func20, Try.ntmps20
    go_wp2_with (go_at_call 47; refine HC.out.mono ?_; rintro e w' ⟨rfl, hb1⟩)
    go_ret
    exact ⟨rfl, HB0.out.trans (hb1.mono HB0.out.size)⟩
theorem len_getD {α : Type} {ls : List (List α)} {N k : Nat} (h : ∀ l ∈ ls, l.length ≤ N) (hk : k < ls.length) : (ls.getD k []).length ≤ N := by
  rw [List.getD_eq_getElem?_getD, List.getElem?_eq_getElem hk, Option.getD_some]
  exact h _ (List.getElem_mem hk)
def SameL {α : Type} (xs ys : List (List α)) (k : Nat) : Prop := ∀ i, i < k → xs.getD i [] = ys.getD i []
theorem SameL.snoc {α : Type} {xs ys : List (List α)} {k : Nat} (h : SameL xs ys k) (h' : xs.getD k [] = ys.getD k []) : SameL xs ys (k + 1) := fun i hi => by
  by_cases e : i = k
  · rw [e]
    exact h'
  · exact h i (by omega)
theorem SameL.eq {α : Type} {xs ys : List (List α)} (h : SameL xs ys xs.length) (hl : xs.length = ys.length) : xs = ys := by
  apply List.ext_getElem hl
  intro i h1 h2
  have := h i h1
  simpa only [List.getD_eq_getElem?_getD, List.getElem?_eq_getElem h1, List.getElem?_eq_getElem h2, Option.getD_some] using this
set_option maxRecDepth 100000 in
theorem eqRuleS_any (A A' : Option Addr) (n n' c c' : Nat) (xs ys : List (List TeD)) (w : World) (hr : Rls w w.heap.size A n xs) (hr' : Rls w w.heap.size A' n' ys) (hn : n ≤ 1048576) (hs : ∀ l ∈ xs, l.length ≤ 1048576) (hs' : ∀ l ∈ ys, l.length ≤ 1048576) :
    Calls Try.prog 86 #[.slice A n c, .slice A' n' c'] w fun e w' => e = .returned (.bool (decide (xs = ys))) ∧ Below w.heap.size w w' := by
  have HL := Lib.hid hr.len
  have HL' := Lib.hid hr'.len
  have HR := Lib.hid hr.cells
  have HR' := Lib.hid hr'.cells
  have HS := Lib.hid hs
  have HS' := Lib.hid hs'
  clear hr hr' hs hs'
  by_cases hnn : n = n'
  · subst hnn
    go_enter Try.func86, Try.ntmps86
    go_wp2
    go_loopw [5] (fun i wr => ∃ k : Nat, k ≤ n ∧ i = .int .i64 k ∧ Below w.heap.size w wr ∧ SameL xs ys k) (fun i _ => n - (intOf i).toNat)
    case atStart => exact ⟨0, by omega, rfl, Below.refl _ _, fun i hi => absurd hi (by omega)⟩
    case round =>
      obtain ⟨k, hk, rfl, hbe, hsm⟩ := hrel
      have HBE := Lib.hid hbe
      by_cases hlt : k < n
      · obtain ⟨b, off, rfl, hb, hcc⟩ := HR.out (by omega)
        obtain ⟨b', off', rfl, hb', hcc'⟩ := HR'.out (by omega)
        obtain ⟨A1, n1, c1, e1, r1⟩ := hcc k hlt
        obtain ⟨A2, n2, c2, e2, r2⟩ := hcc' k hlt
        have e0 := (hbe.cell (p := ⟨b, off + k, none⟩) hb).trans e1
        have e0' := (hbe.cell (p := ⟨b', off' + k, none⟩) hb').trans e2
        have s1 := (r1.below hbe).more hbe.size
        have s2 := (r2.below hbe).more hbe.size
        have hn1 : n1 ≤ 1048576 := by
          have h1 := r1.te_len
          have h2 := len_getD HS.out (by rw [HL.out]; exact hlt : k < xs.length)
          omega
        have hn2 : n2 ≤ 1048576 := by
          have h1 := r2.te_len
          have h2 := len_getD HS'.out (by rw [HL'.out]; exact hlt : k < ys.length)
          omega
        clear hcc hcc' e1 e2 hbe r1 r2
        generalize hx : xs.getD k [] = x at s1
        generalize hy : ys.getD k [] = y at s2
        have HX := Lib.hid hx
        have HY := Lib.hid hy
        clear hx hy
        by_cases heq : x = y
        · have HD : Hid (decide (x = y) = true) := decide_eq_true heq
          have HE := Lib.hid heq
          clear heq
          go_wp2_with fail
          go_still_tail 8, (by kernel_rfl)
          change wpList _ _ _ _ _ wr.drew
          have hbd := HBE.out.drew
          have t1 := s1.drew1
          have t2 := s2.drew1
          generalize wr.drew = w2 at hbd t1 t2 ⊢
          go_wp2_with (go_at_call 20; refine (eqRule_any _ _ _ _ _ _ _ _ _ t1 t2 hn1 hn2).mono ?_; rw [HD.out]; rintro e w3 ⟨rfl, hb3⟩)
          go_roundw
          case rel => exact ⟨k + 1, by omega, by go_num, hbd.trans (hb3.mono hbd.size), hsm.snoc (by rw [HX.out, HY.out, HE.out])⟩
          case measure => simp [intOf]; omega
        · have HD : Hid (decide (x = y) = false) := decide_eq_false heq
          have HE := Lib.hid heq
          clear heq
          go_wp2_with fail
          go_still_tail 8, (by kernel_rfl)
          change wpList _ _ _ _ _ wr.drew
          have hbd := HBE.out.drew
          have t1 := s1.drew1
          have t2 := s2.drew1
          generalize wr.drew = w2 at hbd t1 t2 ⊢
          go_wp2_with (go_at_call 20; refine (eqRule_any _ _ _ _ _ _ _ _ _ t1 t2 hn1 hn2).mono ?_; rw [HD.out]; rintro e w3 ⟨rfl, hb3⟩)
          go_ret
          refine ⟨ret_bool ?_, hbd.trans (hb3.mono hbd.size)⟩
          rw [eq_comm, decide_eq_false_iff_not]
          rintro rfl
          exact HE.out (HX.out.symm.trans HY.out)
      · have e : k = n := by omega
        have HS := Lib.hid hsm
        clear hsm
        subst e
        go_wp2
        go_ret
        refine ⟨ret_bool ?_, hbe⟩
        rw [eq_comm, decide_eq_true_iff]
        have h1 := HL.out
        have h2 := HL'.out
        exact SameL.eq (by rw [h1]; exact HS.out) (by omega)
  · have h1 : ((n : Int) == (n' : Int)) = false := by simp; omega
    have h2 : ((n : Int) != (n' : Int)) = true := by simp; omega
    have HN := Lib.hid hnn
    clear hnn
    go_enter Try.func86, Try.ntmps86
    go_wp2
    go_ret
    refine ⟨ret_bool ?_, Below.refl _ _⟩
    rw [eq_comm, decide_eq_false_iff_not]
    rintro rfl
    exact HN.out (HL.out.symm.trans HL'.out)
theorem eqRuleSet_any (A A' : Option Addr) (n n' c c' : Nat) (xs ys : List (List TeD)) (w : World) (hr : Rls w w.heap.size A n xs) (hr' : Rls w w.heap.size A' n' ys) (hn : n ≤ 1048576) (hs : ∀ l ∈ xs, l.length ≤ 1048576) (hs' : ∀ l ∈ ys, l.length ≤ 1048576) :
    Calls Try.prog 36 #[.agg #[.slice A n c], .agg #[.slice A' n' c']] w fun e w' => e = .returned (.bool (decide (xs = ys))) ∧ Below w.heap.size w w' := by
  have hb0 : Below w.heap.size w ((w.alloc (.cells #[.slice A n c] 62)).alloc (.cells #[.slice A' n' c'] 62)) := by
    repeat (first | exact Below.refl _ _ | refine Below.alloc ?_ (by first | omega | (simp; done) | (simp; omega)) _)
  have hr0 := (hr.below hb0).more hb0.size
  have hr0' := (hr'.below hb0).more hb0.size
  have HC := Lib.hid (eqRuleS_any _ _ _ _ c c' _ _ _ hr0 hr0' hn hs hs')
  have HB0 := Lib.hid hb0
  clear hr hr' hr0 hr0' hb0 hs hs'
  cases hxy : decide (xs = ys)
  all_goals
    rw [hxy] at HC
    clear hxy
    go_enter Try.func36, Try.ntmps36
    go_wp2_with (go_at_call 86; refine HC.out.mono ?_; rintro e w' ⟨rfl, hb1⟩)
    go_ret
    exact ⟨rfl, HB0.out.trans (hb1.mono HB0.out.size)⟩
end Go.Proofs.Ytjfhlhhobpdneaa
