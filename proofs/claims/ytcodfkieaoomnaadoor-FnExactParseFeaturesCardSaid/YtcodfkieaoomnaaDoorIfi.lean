/- Plain: numbers in decimal, the features' names, program and reference alike. No statement of the seat is proved here. -/
import Derived.Test.YtcodfkieaoomnaaDoorIz
import Derived.Test.YtcodfkieaoomnaaDoorPd
namespace Go.Proofs.YtcodfkieaoomnaaDoor
open Go.RowKit
set_option linter.unusedVariables false
set_option linter.unusedSimpArgs false

theorem dig_t : ∀ d : Nat, d < 10 → strB [IntKind.u8.wrap ((48 : Int) + (d : Int))] = [UInt8.ofNat (48 + d)] := by
  intro d hd
  have : ∀ d : Fin 10, strB [IntKind.u8.wrap ((48 : Int) + ((d.val : Nat) : Int))] = [UInt8.ofNat (48 + d.val)] := by decide
  exact this ⟨d, hd⟩
theorem tmod_abs (n : Int) : (if n.tmod 10 < 0 then 0 - n.tmod 10 else n.tmod 10) = ((n.natAbs % 10 : Nat) : Int) ∧ (n.tdiv 10).natAbs = n.natAbs / 10 := by
  cases n with
  | ofNat u =>
    have h1 : (Int.ofNat u).tmod 10 = ((u % 10 : Nat) : Int) := rfl
    have h2 : (Int.ofNat u).tdiv 10 = ((u / 10 : Nat) : Int) := rfl
    rw [h1, h2]
    refine ⟨?_, ?_⟩
    · rw [if_neg (by omega)]; rfl
    · rw [Int.natAbs_natCast]; rfl
  | negSucc u =>
    have h1 : (Int.negSucc u).tmod 10 = -(((u + 1) % 10 : Nat) : Int) := rfl
    have h2 : (Int.negSucc u).tdiv 10 = -(((u + 1) / 10 : Nat) : Int) := rfl
    rw [h1, h2, show (Int.negSucc u).natAbs = u + 1 from rfl]
    refine ⟨?_, ?_⟩
    · split <;> omega
    · rw [Int.natAbs_neg, Int.natAbs_natCast]
def decT (u : Nat) : List UInt8 := if u = 0 then [] else Lib.decDigits u
theorem decT_step (u : Nat) (h : u ≠ 0) : decT u = decT (u / 10) ++ [UInt8.ofNat (48 + u % 10)] := by
  unfold decT
  rw [if_neg h, Lib.decDigits]
  by_cases h10 : u < 10
  · rw [dif_pos h10, if_pos (by omega), List.nil_append, Nat.mod_eq_of_lt h10]
  · rw [dif_neg h10, if_neg (by omega)]
theorem decT_len (k u : Nat) (h : u < 10 ^ (k + 1)) : (decT u).length ≤ k + 1 := by
  unfold decT
  split
  · simp
  · exact decDigits_le k u h
theorem spec_digits {fu : Nat} : ∀ (k : Nat) (n : Int) (acc : List UInt8), n.natAbs < 10 ^ k → n.natAbs ≤ 9223372036854775808 → acc.length + k ≤ 1000 → ∀ q, k < q → M_spec_FormatInt_L0 fu q n acc = some (decT n.natAbs ++ acc)
  | 0, n, acc, h, hn, hl, q, hq => by
    obtain ⟨q, rfl⟩ : ∃ z, q = z + 1 := ⟨q - 1, by omega⟩
    have : n = 0 := by rw [Nat.pow_zero] at h; omega
    subst this
    rw [M_spec_FormatInt_L0]
    rfl
  | k + 1, n, acc, h, hn, hl, q, hq => by
    obtain ⟨q, rfl⟩ : ∃ z, q = z + 1 := ⟨q - 1, by omega⟩
    by_cases h0 : n = 0
    · subst h0
      rw [M_spec_FormatInt_L0]
      rfl
    · obtain ⟨h1, h2⟩ := tmod_abs n
      have hm : n.natAbs % 10 < 10 := Nat.mod_lt _ (by omega)
      have hu : n.natAbs ≠ 0 := by omega
      have hd := dig_t (n.natAbs % 10) hm
      have ih := spec_digits (fu := fu) k (n.tdiv 10) ([UInt8.ofNat (48 + n.natAbs % 10)] ++ acc) (by rw [h2]; rw [Nat.pow_succ] at h; omega) (by rw [h2]; omega) (by simp; omega) q (by omega)
      have hr : -9223372036854775808 ≤ n.tdiv 10 ∧ n.tdiv 10 ≤ 9223372036854775807 := by
        generalize n.tdiv 10 = z at h2
        omega
      have hlen : lenOK (([UInt8.ofNat (48 + n.natAbs % 10)] : List UInt8) ++ acc).length = true := lenOK_t (by simp; omega)
      have fin : decT (n.tdiv 10).natAbs ++ ([UInt8.ofNat (48 + n.natAbs % 10)] ++ acc) = decT n.natAbs ++ acc := by rw [h2, decT_step _ hu, List.append_assoc]
      rw [M_spec_FormatInt_L0, show (n != (0 : Int)) = true from by simpa using h0, cond_true, ck_t (show ((10 : Int) != 0) = true from rfl)]
      by_cases ht : n.tmod 10 < 0
      · rw [if_pos ht] at h1
        rw [decide_eq_true ht, cond_true, h1, ck_t (i64B_t (by omega) (by omega)), ck_t (i64B_t (by omega) (by omega)), hd, ck_t hlen, ck_t (show ((10 : Int) != 0) = true from rfl), ck_t (i64B_t hr.1 hr.2), ih, fin]
      · rw [if_neg ht] at h1
        rw [decide_eq_false ht, cond_false, h1, ck_t (i64B_t (by omega) (by omega)), hd, ck_t hlen, ck_t (show ((10 : Int) != 0) = true from rfl), ck_t (i64B_t hr.1 hr.2), ih, fin]
theorem specFI_t {fu : Nat} {n : Int} (hf : 1048577 ≤ fu) (h0 : -9223372036854775808 ≤ n) (h1 : n ≤ 9223372036854775807) : M_spec_FormatInt fu n = some (Lib.itoa n) := by
  unfold M_spec_FormatInt
  by_cases hz : n = 0
  · subst hz
    rw [show ((0 : Int) == 0) = true from rfl, cond_true]
    unfold Lib.itoa
    rw [if_neg (by decide), show (0 : Int).toNat = 0 from rfl, Lib.decDigits, dif_pos (by decide)]
    rfl
  · have hd := spec_digits (fu := fu) 20 n [] (by omega) (by omega) (by simp) fu (by omega)
    have hl := decT_len 19 n.natAbs (by omega)
    rw [List.append_nil] at hd
    have hu : n.natAbs ≠ 0 := by omega
    have e : decT n.natAbs = Lib.decDigits n.natAbs := if_neg hu
    rw [show (n == (0 : Int)) = false from by simpa using hz, cond_false, hd, cl_true]
    unfold Lib.itoa
    by_cases hneg : n < 0
    · rw [decide_eq_true hneg, cond_true, if_pos hneg, ck_t (lenOK_t (by simp; omega)), e]
      rfl
    · rw [decide_eq_false hneg, cond_false, if_neg hneg, e, show n.natAbs = n.toNat from by omega]
theorem implFI_t {fu : Nat} {n : Int} (h0 : -9223372036854775808 ≤ n) (h1 : n ≤ 9223372036854775807) : M_impl_FormatInt fu n = some (Lib.itoa n) := by
  unfold M_impl_FormatInt M_itoa
  rw [ck_t (i64B_t h0 h1)]
  rfl
theorem specName_t {fu : Nat} {n : Int} (h0 : 0 ≤ n) (h1 : n ≤ 5) : M_spec_FeatureName fu n = some (gtD featL n) := by
  unfold M_spec_FeatureName
  rw [show M_spec_l1In fu n 0 5 = some (decide (0 ≤ n) && decide (n ≤ 5)) from rfl, cl_true, decide_eq_true h0, decide_eq_true h1, Bool.and_self, Bool.not_true, cond_false, ck_t (inR_iff.2 ⟨h0, by show n < 6; omega⟩)]
  rfl
theorem featIn {n : Int} (h0 : 0 ≤ n) (h1 : n ≤ 5) : inR n featL.length = true := inR_iff.2 ⟨h0, by show n < 6; omega⟩
theorem feat_len (n : Int) : (gtD featL n).length ≤ 6 := by
  unfold gtD
  have : ∀ k : Nat, (featL.getD k default).length ≤ 6 := fun k => by
    match k with
    | 0 => decide
    | 1 => decide
    | 2 => decide
    | 3 => decide
    | 4 => decide
    | 5 => decide
    | k + 6 => rw [List.getD_eq_getElem?_getD, List.getElem?_eq_none (by show 6 ≤ k + 6; omega)]; decide
  exact this _
theorem lenOK_s {l : List UInt8} (h : l.length ≤ 1000000) : lenOK l.length = true := lenOK_t (by omega)
/-- sep between the elements, as a loop lays it -/
def jn (sep : List UInt8) : List (List UInt8) → List UInt8
  | [] => []
  | x :: xs => x ++ (xs.map (sep ++ ·)).flatten
theorem jn_join (sep : List UInt8) (xs : List (List UInt8)) : joinL sep xs = jn sep xs := by
  unfold joinL Lib.join
  cases xs with
  | nil => rfl
  | cons x xs =>
    unfold jn
    induction xs generalizing x with
    | nil => simp [List.intercalate]
    | cons y ys ih =>
      have := ih y
      simp only [List.intercalate, List.intersperse] at this ⊢
      simp only [List.flatten_cons, List.map_cons] at this ⊢
      rw [this]
      simp
theorem jn_snoc (sep : List UInt8) (xs : List (List UInt8)) (x : List UInt8) (h : xs ≠ []) : jn sep (xs ++ [x]) = jn sep xs ++ sep ++ x := by
  cases xs with
  | nil => exact (h rfl).elim
  | cons y ys => simp [jn, List.append_assoc]
theorem jn_one (sep x : List UInt8) : jn sep [x] = x := by simp [jn]
theorem jn_len (sep : List UInt8) (m : Nat) : ∀ (xs : List (List UInt8)), (∀ x ∈ xs, x.length ≤ m) → (jn sep xs).length ≤ xs.length * (m + sep.length)
  | [], h => by simp [jn]
  | x :: xs, h => by
    unfold jn
    have hx := h x List.mem_cons_self
    have key : ∀ ys : List (List UInt8), (∀ y ∈ ys, y.length ≤ m) → ((ys.map (sep ++ ·)).flatten).length ≤ ys.length * (m + sep.length) := by
      intro ys hy
      induction ys with
      | nil => simp
      | cons y ys ih =>
        have h1 := hy y List.mem_cons_self
        have h2 := ih fun z hz => hy z (List.mem_cons_of_mem _ hz)
        rw [List.map_cons, List.flatten_cons, List.length_append, List.length_append, List.length_cons, Nat.add_mul, Nat.one_mul]
        omega
    have := key xs fun z hz => h z (List.mem_cons_of_mem _ hz)
    rw [List.length_append, List.length_cons, Nat.add_mul, Nat.one_mul]
    omega
theorem join_t {fu : Nat} {xs : List (List UInt8)} {sep : List UInt8} (h1 : xs.length ≤ 1000000) (h2 : (jn sep xs).length ≤ 1000000) : M_join fu xs sep = some (jn sep xs) := by
  unfold M_join
  rw [jn_join, ck_t (by rw [lenOK_t (by omega), lenOK_t (by omega)]; rfl)]
theorem itoa_le {n : Int} (h0 : -9223372036854775808 ≤ n) (h1 : n ≤ 9223372036854775807) : (Lib.itoa n).length ≤ 21 := itoa_len h0 h1
end Go.Proofs.YtcodfkieaoomnaaDoor

