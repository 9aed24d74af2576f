/- Plain: the q-gram lemma (a single edit costs at most q grams), so the filters let every similar pair through. -/
import Derived.Test.YtofiipblinonoaaXgram
import Derived.Test.YtofiipblinonoaaXlev
namespace Go.Proofs.Ytofiipblinonoaa
open Go.RowKit
set_option linter.unusedVariables false
set_option linter.unusedSimpArgs false
theorem cgE_ge : ∀ (xs ys E : List (List UInt8)), (∀ y, E.count y ≤ xs.count y) → (∀ y, E.count y ≤ ys.count y) → E.length ≤ cgE xs ys
  | [], ys, E, h1, h2 => by
    cases E with
    | nil => exact Nat.zero_le _
    | cons e E =>
      have := h1 e
      rw [List.count_cons_self, List.count_nil] at this
      omega
  | x :: xs, ys, E, h1, h2 => by
    have hc : ∀ y, (x :: xs).count y = xs.count y + if (x == y) = true then 1 else 0 := fun y => List.count_cons
    unfold cgE
    by_cases hx : x ∈ E
    · have hp : 0 < E.count x := List.count_pos_iff.2 hx
      rw [decide_eq_true (Nat.lt_of_lt_of_le hp (h2 x)), cond_true]
      have hl := List.length_erase_of_mem hx
      have hl0 := List.length_pos_of_mem hx
      have := cgE_ge xs (ys.erase x) (E.erase x) (fun y => by
        have a1 := h1 y
        rw [hc] at a1
        rw [List.count_erase]
        omega) (fun y => by
        have a1 := h2 y
        rw [List.count_erase, List.count_erase]
        omega)
      omega
    · have h0 : E.count x = 0 := List.count_eq_zero.2 hx
      have k1 : ∀ y, E.count y ≤ xs.count y := fun y => by
        have a1 := h1 y
        rw [hc] at a1
        by_cases hy : (x == y) = true
        · have : x = y := by simpa using hy
          subst this
          omega
        · rw [if_neg hy] at a1
          omega
      cases hd : decide (0 < ys.count x)
      · rw [cond_false]
        exact cgE_ge xs ys E k1 h2
      · rw [cond_true]
        have := cgE_ge xs (ys.erase x) E k1 (fun y => by
          have a1 := h2 y
          rw [List.count_erase]
          by_cases hy : (x == y) = true
          · have : x = y := by simpa using hy
            subst this
            omega
          · rw [if_neg hy]
            omega)
        omega
/-- the first n grams -/
def gr (s : List UInt8) (q n : Nat) : List (List UInt8) := (List.range n).map (gramAt s q)
theorem gr_s (s : List UInt8) (q n : Nat) : gr s q (n + 1) = gr s q n ++ [gramAt s q n] := by
  unfold gr
  rw [List.range_succ, List.map_append]
  rfl
theorem gr_mono (s : List UInt8) (q : Nat) (y : List UInt8) (i : Nat) : (gr s q (i + 1 - q)).count y ≤ (gr s q (i + 1 + 1 - q)).count y := by
  by_cases h : q ≤ i + 1
  · rw [show i + 1 + 1 - q = (i + 1 - q) + 1 by omega, gr_s, List.count_append]
    omega
  · rw [show i + 1 + 1 - q = i + 1 - q by omega]
    exact Nat.le_refl _
structure Ql (a b : List UInt8) (q i j : Nat) (d : Int) : Prop where
  d1 : (i : Int) - j ≤ d
  d2 : (j : Int) - i ≤ d
  ex : ∃ (E : List (List UInt8)) (r : Nat), (r ≤ i ∧ r ≤ j ∧ ∀ t, 1 ≤ t → t ≤ r → a[i - t]? = b[j - t]?) ∧ (∀ y, E.count y ≤ (gr a q (i + 1 - q)).count y) ∧ (∀ y, E.count y ≤ (gr b q (j + 1 - q)).count y) ∧ max (i : Int) j ≤ (E.length : Int) + (min r (q - 1) : Nat) + (q : Int) * d
theorem Ql.match {a b : List UInt8} {q i j : Nat} {d : Int} (hq : 1 ≤ q) (h : Ql a b q i j d) (he : a[i]? = b[j]?) : Ql a b q (i + 1) (j + 1) d := by
  obtain ⟨h1, h2, E, r, ⟨hi, hj, ht⟩, hA, hB, hm⟩ := h
  have ht' : ∀ t, 1 ≤ t → t ≤ r + 1 → a[i + 1 - t]? = b[j + 1 - t]? := fun t t1 t2 => by
    by_cases e : t = 1
    · subst e; exact he
    · rw [show i + 1 - t = i - (t - 1) by omega, show j + 1 - t = j - (t - 1) by omega]
      exact ht (t - 1) (by omega) (by omega)
  refine ⟨by omega, by omega, ?_⟩
  by_cases hr : q ≤ r + 1
  · have eg : gramAt a q (i + 1 - q) = gramAt b q (j + 1 - q) := by
      unfold gramAt
      apply List.ext_getElem?
      intro k
      rw [List.getElem?_take, List.getElem?_take, List.getElem?_drop, List.getElem?_drop]
      split
      · have := ht' (q - k) (by omega) (by omega)
        rw [show i + 1 - (q - k) = i + 1 - q + k by omega, show j + 1 - (q - k) = j + 1 - q + k by omega] at this
        exact this
      · rfl
    refine ⟨E ++ [gramAt a q (i + 1 - q)], r + 1, ⟨by omega, by omega, ht'⟩, fun y => ?_, fun y => ?_, ?_⟩
    · rw [show i + 1 + 1 - q = (i + 1 - q) + 1 by omega, gr_s, List.count_append, List.count_append]
      have := hA y
      omega
    · rw [show j + 1 + 1 - q = (j + 1 - q) + 1 by omega, gr_s, List.count_append, List.count_append, eg]
      have := hB y
      omega
    · rw [List.length_append, List.length_singleton]
      omega
  · refine ⟨E, r + 1, ⟨by omega, by omega, ht'⟩, fun y => Nat.le_trans (hA y) (gr_mono a q y i), fun y => Nat.le_trans (hB y) (gr_mono b q y j), ?_⟩
    omega
theorem Ql.edit {a b : List UInt8} {q i j i' j' : Nat} {d : Int} (hq : 1 ≤ q) (h : Ql a b q i j d) (hi : i' = i ∨ i' = i + 1) (hj : j' = j ∨ j' = j + 1) : Ql a b q i' j' (1 + d) := by
  obtain ⟨h1, h2, E, r, -, hA, hB, hm⟩ := h
  refine ⟨by omega, by omega, E, 0, ⟨Nat.zero_le _, Nat.zero_le _, fun t t1 t2 => by omega⟩, fun y => ?_, fun y => ?_, ?_⟩
  · rcases hi with rfl | rfl
    · exact hA y
    · exact Nat.le_trans (hA y) (gr_mono a q y i)
  · rcases hj with rfl | rfl
    · exact hB y
    · exact Nat.le_trans (hB y) (gr_mono b q y j)
  · rw [Int.mul_add, Int.mul_one]
    omega
theorem Ql.init {a b : List UInt8} {q i j : Nat} (hq : 1 ≤ q) (h : i = 0 ∨ j = 0) : Ql a b q i j ((i : Int) + j) := by
  refine ⟨by omega, by omega, [], 0, ⟨Nat.zero_le _, Nat.zero_le _, fun t t1 t2 => by omega⟩, fun y => Nat.zero_le _, fun y => Nat.zero_le _, ?_⟩
  have : ((i + j : Nat) : Int) ≤ ((q * (i + j) : Nat) : Int) := by exact_mod_cast Nat.le_mul_of_pos_left (i + j) (by omega : 0 < q)
  rw [Int.natCast_mul, Int.natCast_add] at this
  rw [List.length_nil]
  omega
theorem bAt_at {a b : List UInt8} {i j : Nat} (hi : i < a.length) (hj : j < b.length) (h : (bAt a (i : Int) == bAt b (j : Int)) = true) : a[i]? = b[j]? := by
  have e : ∀ {s : List UInt8} {k : Nat} (hk : k < s.length), bAt s (k : Int) = (s[k].toNat : Int) := fun {s k} hk => by
    unfold bAt
    rw [Int.toNat_natCast, List.getD_eq_getElem?_getD, List.getElem?_eq_getElem hk]
    rfl
  rw [e hi, e hj, beq_iff_eq] at h
  rw [List.getElem?_eq_getElem hi, List.getElem?_eq_getElem hj]
  congr 1
  exact UInt8.toNat_inj.1 (by omega)
theorem Ql.all {a b : List UInt8} {q : Nat} (hq : 1 ≤ q) : ∀ (n i j : Nat), i + j ≤ n → i ≤ a.length → j ≤ b.length → Ql a b q i j (lv a b i j)
  | n, 0, j, hn, hi, hj => by
    rw [lv_0]
    have := Ql.init (a := a) (b := b) (q := q) (i := 0) (j := j) hq (.inl rfl)
    rwa [show ((0 : Nat) : Int) + (j : Int) = j by omega] at this
  | n, i + 1, 0, hn, hi, hj => by
    rw [lv_i0]
    have := Ql.init (a := a) (b := b) (q := q) (i := i + 1) (j := 0) hq (.inr rfl)
    rwa [show ((i + 1 : Nat) : Int) + ((0 : Nat) : Int) = ((i + 1 : Nat) : Int) by omega] at this
  | 0, i + 1, j + 1, hn, hi, hj => by omega
  | n + 1, i + 1, j + 1, hn, hi, hj => by
    cases h : bAt a (i : Int) == bAt b (j : Int)
    · rw [lv_ne a b i j h]
      have hc : min (min (lv a b i (j + 1)) (lv a b (i + 1) j)) (lv a b i j) = lv a b i (j + 1) ∨ min (min (lv a b i (j + 1)) (lv a b (i + 1) j)) (lv a b i j) = lv a b (i + 1) j ∨ min (min (lv a b i (j + 1)) (lv a b (i + 1) j)) (lv a b i j) = lv a b i j := by omega
      rcases hc with e | e | e <;> rw [e]
      · exact (Ql.all hq n i (j + 1) (by omega) (by omega) hj).edit hq (.inr rfl) (.inl rfl)
      · exact (Ql.all hq n (i + 1) j (by omega) hi (by omega)).edit hq (.inl rfl) (.inr rfl)
      · exact (Ql.all hq n i j (by omega) (by omega) (by omega)).edit hq (.inr rfl) (.inr rfl)
    · rw [lv_eq a b i j h]
      exact (Ql.all hq n i j (by omega) (by omega) (by omega)).match hq (bAt_at (by omega) (by omega) h)
theorem gram_of {a b : List UInt8} {q : Nat} {l : Int} (hq : 1 ≤ q) (hq3 : q ≤ 3) (ha : a.length ≤ 40) (hb : b.length ≤ 40) (hl : l ≤ 40) (h : lv a b a.length b.length ≤ l) : gramB a b (q : Int) l = true := by
  obtain ⟨d1, d2, E, r, -, hA, hB, hm⟩ := Ql.all (a := a) (b := b) hq (a.length + b.length) a.length b.length (Nat.le_refl _) (Nat.le_refl _) (Nat.le_refl _)
  have hp := (lv_pos a b (a.length + b.length) a.length b.length (Nat.le_refl _)).1
  have hg : goodB (a.length : Int) (b.length : Int) (q : Int) l = true := by
    unfold goodB inI
    simp only [Bool.and_eq_true, decide_eq_true_eq]
    omega
  have hE := cgE_ge (gramS a q) (gramS b q) E (fun y => Nat.le_trans (hA y) (Nat.le_of_eq ((List.mergeSort_perm _ _).count_eq y).symm)) (fun y => Nat.le_trans (hB y) (Nat.le_of_eq ((List.mergeSort_perm _ _).count_eq y).symm))
  unfold gramB mcg
  rw [hg, cond_true, Bool.true_and, Int.toNat_natCast, decide_eq_true_eq]
  have hx : (q : Int) * lv a b a.length b.length ≤ (q : Int) * l := Int.mul_le_mul_of_nonneg_left h (by omega)
  omega
theorem pass_of {a b : List UInt8} {l : Int} (h0 : 0 ≤ editD a b) (h : editD a b ≤ l) (hl : l ≤ 40) : passB a b l = true := by
  unfold editD at h0 h
  cases hd : decide (a.length ≤ 40) && decide (b.length ≤ 40)
  · rw [hd, cond_false] at h0
    omega
  · rw [hd, cond_true] at h
    rw [Bool.and_eq_true, decide_eq_true_eq, decide_eq_true_eq] at hd
    obtain ⟨d1, d2, -⟩ := Ql.all (a := a) (b := b) (q := 1) (Nat.le_refl _) (a.length + b.length) a.length b.length (Nat.le_refl _) (Nat.le_refl _) (Nat.le_refl _)
    unfold passB lenB
    show ((decide _ && gramB a b ((2 : Nat) : Int) l) && gramB a b ((3 : Nat) : Int) l) = true
    rw [decide_eq_true (by omega), gram_of (q := 2) (by omega) (by omega) hd.1 hd.2 hl h, gram_of (q := 3) (by omega) (by omega) hd.1 hd.2 hl h]
    rfl
/-! ### the score -/
theorem lv_max (a b : List UInt8) : ∀ (n i j : Nat), i + j ≤ n → lv a b i j ≤ max (i : Int) j
  | n, 0, j, hn => by rw [lv_0]; omega
  | n, i + 1, 0, hn => by rw [lv_i0]; omega
  | 0, i + 1, j + 1, hn => by omega
  | n + 1, i + 1, j + 1, hn => by
    have := lv_max a b n i j (by omega)
    rcases lv_c a b i j with e | e <;> rw [e] <;> omega
/-- the score asks t where the distance asks m (1000 - t) / 1000 -/
theorem score_iff {m d t : Int} (hm : 0 < m) (hd : 0 ≤ d) (hdm : d ≤ m) (ht : 0 ≤ t) (ht1 : t ≤ 1000) : t ≤ (1000 * (m - d)).tdiv m ↔ d ≤ (m * (1000 - t)).tdiv 1000 := by
  have e1 : 0 ≤ 1000 * (m - d) := by omega
  have e2 : 0 ≤ m * (1000 - t) := Int.mul_nonneg (by omega) (by omega)
  rw [Int.tdiv_eq_ediv_of_nonneg e1, Int.tdiv_eq_ediv_of_nonneg e2, Int.le_ediv_iff_mul_le hm, Int.le_ediv_iff_mul_le (by decide), Int.mul_sub m 1000 t, Int.mul_comm t m]
  omega
end Go.Proofs.Ytofiipblinonoaa

