/- Plain: sizes of intersections and unions, MeetsJaccard, program and reference alike. No statement of the seat is proved here. -/
import Derived.Test.YtofiipblinonoaaQsi
import Derived.Test.YtofiipblinonoaaQst
namespace Go.Proofs.Ytofiipblinonoaa
open Go.RowKit
set_option linter.unusedVariables false
set_option linter.unusedSimpArgs false

/-- what two sorted lists have in common, as often as both have it -/
def mrgN : Nat → List (List UInt8) → List (List UInt8) → Nat
  | 0, _, _ => 0
  | _ + 1, [], _ => 0
  | _ + 1, _ :: _, [] => 0
  | n + 1, x :: xs, y :: ys => bif bLt x y then mrgN n xs (y :: ys) else bif bLt y x then mrgN n (x :: xs) ys else mrgN n xs ys + 1
theorem subL_tail {α : Type} (x : α) (xs : List α) : subL (x :: xs) 1 (((x :: xs).length : Nat) : Int) = xs := by
  rw [show (1 : Int) = ((1 : Nat) : Int) from rfl, subL_drop]
  rfl
theorem mrg_t {fu : Nat} : ∀ (n k : Nat) (xs ys : List (List UInt8)) (c : Int), xs.length + ys.length ≤ n → n < k → 0 ≤ c → c + n ≤ 4294967296 → M_impl_CommonGrams_L0 fu k xs ys c = some (c + mrgN n xs ys)
  | 0, k, xs, ys, c, hn, hk, h0, h1 => by
    obtain ⟨k, rfl⟩ : ∃ q, k = q + 1 := ⟨k - 1, by omega⟩
    obtain rfl : xs = [] := List.eq_nil_of_length_eq_zero (by omega)
    rw [M_impl_CommonGrams_L0]
    simp [bd_eq, mrgN]
  | n + 1, k, [], ys, c, hn, hk, h0, h1 => by
    obtain ⟨k, rfl⟩ : ∃ q, k = q + 1 := ⟨k - 1, by omega⟩
    rw [M_impl_CommonGrams_L0]
    simp [bd_eq, mrgN]
  | n + 1, k, x :: xs, [], c, hn, hk, h0, h1 => by
    obtain ⟨k, rfl⟩ : ∃ q, k = q + 1 := ⟨k - 1, by omega⟩
    rw [M_impl_CommonGrams_L0]
    simp [bd_eq, mrgN]
  | n + 1, k, x :: xs, y :: ys, c, hn, hk, h0, h1 => by
    obtain ⟨k, rfl⟩ : ∃ q, k = q + 1 := ⟨k - 1, by omega⟩
    simp only [List.length_cons] at hn
    have hx : decide ((0 : Int) < ((x :: xs).length : Int)) = true := lt_0 (by simp)
    have hy : decide ((0 : Int) < ((y :: ys).length : Int)) = true := lt_0 (by simp)
    have sx : subR (1 : Int) (((x :: xs).length : Nat) : Int) (x :: xs).length = true := subR_d (k := 1) (by simp)
    have sy : subR (1 : Int) (((y :: ys).length : Nat) : Int) (y :: ys).length = true := subR_d (k := 1) (by simp)
    rw [M_impl_CommonGrams_L0, hx, hy]
    simp only [Bool.and_self, bd_eq, cond_true, inR_0 (show 0 < (x :: xs).length by simp), inR_0 (show 0 < (y :: ys).length by simp), ck_tt, gtD_0 (show (x :: xs)[0]? = some x from rfl), gtD_0 (show (y :: ys)[0]? = some y from rfl), sx, sy, subL_tail, i64B_t (show -9223372036854775808 ≤ c + 1 by omega) (show c + 1 ≤ 9223372036854775807 by omega)]
    unfold mrgN
    cases bLt x y
    · cases bLt y x
      · rw [cond_false, cond_false, cond_false, cond_false, mrg_t n k xs ys (c + 1) (by omega) (by omega) (by omega) (by omega)]
        congr 1
        omega
      · rw [cond_false, cond_true, cond_false, cond_true]
        exact mrg_t n k (x :: xs) ys c (by simp; omega) (by omega) h0 (by omega)
    · rw [cond_true, cond_true]
      exact mrg_t n k xs (y :: ys) c (by simp; omega) (by omega) h0 (by omega)
/-- for sets: the elements of the one that the other has -/
theorem mrgN_sets : ∀ (n : Nat) (xs ys : List (List UInt8)), xs.length + ys.length ≤ n → SortedS bLt xs → SortedS bLt ys → mrgN n xs ys = (xs.filter fun x => ys.any fun y => y == x).length
  | 0, xs, ys, hn, _, _ => by
    obtain rfl : xs = [] := List.eq_nil_of_length_eq_zero (by omega)
    rfl
  | n + 1, [], ys, hn, _, _ => rfl
  | n + 1, x :: xs, [], hn, _, _ => by
    rw [show ((x :: xs).filter fun z => ([] : List (List UInt8)).any fun y => y == z) = [] from List.filter_eq_nil_iff.2 (fun _ _ => by simp)]
    rfl
  | n + 1, x :: xs, y :: ys, hn, hx, hy => by
    simp only [List.length_cons] at hn
    obtain ⟨x1, x2⟩ := List.pairwise_cons.1 hx
    obtain ⟨y1, y2⟩ := List.pairwise_cons.1 hy
    have S := sto_bLt
    unfold mrgN
    have no : ∀ {a b : List UInt8}, bLt a b = true → (b == a) = false := fun {a b} h => by
      rw [beq_eq_false_iff_ne]
      intro e
      rw [e, bLt_irrefl] at h
      cases h
    cases h1 : bLt x y
    · cases h2 : bLt y x
      · have e := bLt_tri h1 h2
        subst e
        rw [cond_false, cond_false, mrgN_sets n xs ys (by omega) x2 y2, List.filter_cons, if_pos (by simp), List.length_cons]
        congr 2
        apply List.filter_congr
        intro z hz
        rw [List.any_cons, show (x == z) = false from by
          have := no (x1 z hz)
          rwa [Bool.beq_comm] at this, Bool.false_or]
      · rw [cond_false, cond_true, mrgN_sets n (x :: xs) ys (by simp; omega) hx y2]
        congr 1
        apply List.filter_congr
        intro z hz
        have hyz : bLt y z = true := by
          rcases List.mem_cons.1 hz with rfl | hz
          · exact h2
          · exact S.tr y x z h2 (x1 z hz)
        rw [List.any_cons, show (y == z) = false from by
          have := no hyz
          rwa [Bool.beq_comm] at this, Bool.false_or]
    · rw [cond_true, mrgN_sets n xs (y :: ys) (by simp; omega) x2 hy, List.filter_cons, if_neg]
      intro hc
      rw [List.any_eq_true] at hc
      obtain ⟨z, hz, e⟩ := hc
      rw [beq_iff_eq] at e
      subst e
      rcases List.mem_cons.1 hz with rfl | hz
      · rw [bLt_irrefl] at h1
        cases h1
      · have := S.tr z y z h1 (y1 z hz)
        rw [bLt_irrefl] at this
        cases this
theorem adj_sorted {α : Type} {lt : α → α → Bool} (S : Sto lt) {b : α → α → Bool} (hb : ∀ p x, b p x = false → lt p x = true) : ∀ (xs : List α) (p : α), adjB b p xs = false → SortedS lt (p :: xs)
  | [], p, _ => List.pairwise_cons.2 ⟨fun y h => (by cases h), List.Pairwise.nil⟩
  | x :: xs, p, h => by
    unfold adjB at h
    rw [Bool.or_eq_false_iff] at h
    have ih := adj_sorted S hb xs x h.2
    have hpx := hb p x h.1
    refine List.pairwise_cons.2 ⟨fun y hy => ?_, ih⟩
    rcases List.mem_cons.1 hy with rfl | hy
    · exact hpx
    · exact S.tr p x y hpx ((List.pairwise_cons.1 ih).1 y hy)
theorem tok_sorted {l : List (List UInt8)} (h : tokB l = true) : SortedS bLt l := by
  unfold tokB at h
  cases l with
  | nil => exact List.Pairwise.nil
  | cons x xs =>
    rw [Bool.not_eq_true', adjAny, Bool.or_eq_false_iff] at h
    exact adj_sorted sto_bLt (fun p x hb => by
      rw [Bool.or_eq_false_iff] at hb
      simpa using hb.2) xs x h.2
theorem sort_id {l : List (List UInt8)} (h : SortedS bLt l) : (l.mergeSort fun x y => !(bLt y x)) = l :=
  sortedW_one sto_bLt (List.mergeSort_perm l _) (sort_sorted sto_bLt l) (h.w sto_bLt)
theorem setL_id {l : List (List UInt8)} (h : SortedS bLt l) : setL l = l :=
  sortedS_one sto_bLt (setL_sorted l) h fun x => setL_mem
def interB (a b : List (List UInt8)) : List (List UInt8) := a.filter fun x => b.any fun y => y == x
theorem interB_le (a b : List (List UInt8)) : (interB a b).length ≤ a.length := List.length_filter_le _ _
/-- the union's size -/
theorem unite_len {a b : List (List UInt8)} (sa : SortedS bLt a) (sb : SortedS bLt b) : ((b.foldl (putS bLt) (a.foldl (putS bLt) [])).length : Int) = a.length + b.length - (interB a b).length := by
  obtain ⟨h1, h2⟩ := foldl_putS sto_bLt a [] List.Pairwise.nil
  obtain ⟨h3, h4⟩ := foldl_putS sto_bLt b _ h1
  have hn := SortedS.nodup sto_bLt h3
  have hb2 : (a ++ b.filter fun x => !(a.any fun y => y == x)).Nodup := by
    refine List.nodup_append.2 ⟨SortedS.nodup sto_bLt sa, (SortedS.nodup sto_bLt sb).sublist List.filter_sublist, fun x hx y hy e => ?_⟩
    subst e
    have := (List.mem_filter.1 hy).2
    simp at this
    exact this _ hx rfl
  have hp : (b.foldl (putS bLt) (a.foldl (putS bLt) [])).Perm (a ++ b.filter fun x => !(a.any fun y => y == x)) := by
    refine (List.perm_ext_iff_of_nodup hn hb2).2 fun x => ?_
    rw [h4, h2, List.mem_append, List.mem_filter]
    by_cases hx : x ∈ a
    · simp [hx]
    · simp [hx]
      exact fun _ y hy e => hx (e ▸ hy)
  have hl := hp.length_eq
  rw [List.length_append] at hl
  have e1 : interB a b = interB b a := by
    refine sortedS_one sto_bLt (sa.sublist List.filter_sublist) (sb.sublist List.filter_sublist) fun x => ?_
    unfold interB
    rw [List.mem_filter, List.mem_filter]
    simp
    exact And.comm
  have e2 : (interB b a).length + (b.filter fun x => !(a.any fun y => y == x)).length = b.length := by
    have h : ∀ l : List (List UInt8), (l.filter fun x => a.any fun y => y == x).length + (l.filter fun x => !(a.any fun y => y == x)).length = l.length := by
      intro l
      induction l with
      | nil => rfl
      | cons z l ih =>
        simp only [List.filter_cons, List.length_cons]
        cases a.any fun y => y == z <;> simp <;> omega
    exact h b
  rw [e1]
  omega
def meetB (a b : List (List UInt8)) (t : Int) : Bool := ((tokB a && tokB b) && ((inI a.length 0 1000 && inI b.length 0 1000) && inI t 1 1000)) && decide (t * ((a.length : Int) + b.length - (interB a b).length) ≤ 1000 * ((interB a b).length : Int))
theorem meet_nums {a b : List (List UInt8)} {t : Int} (h1 : inI a.length 0 1000 = true) (h2 : inI b.length 0 1000 = true) (h3 : inI t 1 1000 = true) : (a.length ≤ 1000 ∧ b.length ≤ 1000 ∧ 1 ≤ t ∧ t ≤ 1000) ∧ (∀ n : Int, 0 ≤ n → n ≤ 2000 → 0 ≤ t * n ∧ t * n ≤ 2000000) := by
  unfold inI at *
  simp only [Bool.and_eq_true, decide_eq_true_eq] at *
  refine ⟨⟨by omega, by omega, by omega, by omega⟩, fun n hn hn' => ⟨Int.mul_nonneg (by omega) hn, ?_⟩⟩
  have := Int.mul_le_mul h3.2 hn' hn (by omega)
  omega
end Go.Proofs.Ytofiipblinonoaa

