/- Plain: equal neighbours of a row of integers taken out. No statement of the seat is proved here. -/
import Derived.Test.YtmkgocdgkdglnaaAdv
namespace Go.Proofs.Ytmkgocdgkdglnaa
open Go.RowKit
set_option linter.unusedVariables false
set_option linter.unusedSimpArgs false

theorem compactI1_t {fu : Nat} {s : List Int} {i : Nat} (hl : s.length ≤ 1048576) (hi0 : 0 < i) : ∀ m j w k ys q, i + j + m = s.length → m < k → 1 ≤ j → w ≤ i + j - 1 → ys.length = s.length → ys.drop (i + j - 1) = s.drop (i + j - 1) → s[i + j - 1]? = some q → ys.take w ++ cmpA q (s.drop (i + j)) = cmpL s →
    ∃ (w' : Nat) (ys' : List Int), M_slices_Compact_int_int_L1 fu (i : Int) (s.length - i) k (w : Int) (j : Int) ys = some ((w' : Int), ys') ∧ ys'.length = s.length ∧ w' ≤ s.length ∧ ys'.take w' = cmpL s := by
  intro m
  induction m with
  | zero =>
    intro j w k ys q hm hk hj hw hlen hdr hq hc
    obtain ⟨k, rfl⟩ : ∃ q, k = q + 1 := ⟨k - 1, by omega⟩
    refine ⟨w, ys, ?_, hlen, by omega, ?_⟩
    · rw [M_slices_Compact_int_int_L1, decide_eq_false (show ¬ (j : Int) < ((s.length - i : Nat) : Int) by omega)]
      rfl
    · rw [show i + j = s.length by omega, List.drop_length] at hc
      simpa [cmpA] using hc
  | succ m ih =>
    intro j w k ys q hm hk hj hw hlen hdr hq hc
    obtain ⟨k, rfl⟩ : ∃ q, k = q + 1 := ⟨k - 1, by omega⟩
    have hx := List.getElem?_eq_getElem (show i + j < s.length by omega)
    have hat : ∀ n, i + j - 1 ≤ n → ys[n]? = s[n]? := fun n hn => by
      have := congrArg (fun l => l[n - (i + j - 1)]?) hdr
      simp only [List.getElem?_drop] at this
      rwa [show i + j - 1 + (n - (i + j - 1)) = n by omega] at this
    have hyx : ys[i + j]? = some s[i + j] := (hat _ (by omega)).trans hx
    have hyq : ys[i + j - 1]? = some q := (hat _ (Nat.le_refl _)).trans hq
    have e1 : ((i : Int) + (j : Int)) = ((i + j : Nat) : Int) := rfl
    have e2 : ((i : Int) + ((j : Int) - 1)) = ((i + j - 1 : Nat) : Int) := by omega
    rw [M_slices_Compact_int_int_L1, decide_eq_true (show (j : Int) < ((s.length - i : Nat) : Int) by omega), cond_true, ck_t (inR_i (by omega) (by omega)), ck_t (decide_eq_true (by omega)), e1, ck_t (inR_t (by omega)), ck_t (i64B_t (by omega) (by omega)), ck_t (inR_i (by omega) (by omega)), ck_t (decide_eq_true (by omega)), e2, ck_t (inR_t (by omega)), gtD_get hyx, gtD_get hyq]
    rw [drop_cons hx, cmpA] at hc
    rw [show (s[i + j] != q) = !(s[i + j] == q) from rfl]
    cases hb : (s[i + j] == q)
    · rw [Bool.not_false, cond_true, ck_t (inR_i (by omega) (by omega)), ck_t (decide_eq_true (by omega)), ck_t (inR_t (by omega)), ck_t (inR_t (by omega)), ck_t (i64B_n (by omega)), ck_t (i64B_n (by omega)), succ_i, succ_i, set_nat]
      rw [hb, cond_false] at hc
      have := ih (j + 1) (w + 1) k (ys.set w s[i + j]) s[i + j] (by omega) (by omega) (by omega) (by omega) (by rw [List.length_set]; exact hlen) ?_ ?_ ?_
      · exact this
      · rw [List.drop_set_of_lt (by omega)]
        have := congrArg (fun l => l.drop 1) hdr
        simp only [List.drop_drop] at this
        rwa [show i + (j + 1) - 1 = i + j - 1 + 1 by omega]
      · rw [show i + (j + 1) - 1 = i + j by omega]
        exact hx
      · rw [List.take_add_one, List.take_set_of_le (Nat.le_refl _), List.getElem?_set_self (by omega)]
        simpa [Nat.add_assoc] using hc
    · rw [Bool.not_true, cond_false, ck_t (i64B_n (by omega)), succ_i]
      rw [hb, cond_true] at hc
      refine ih (j + 1) w k ys s[i + j] (by omega) (by omega) (by omega) (by omega) hlen ?_ ?_ hc
      · have := congrArg (fun l => l.drop 1) hdr
        simp only [List.drop_drop] at this
        rwa [show i + (j + 1) - 1 = i + j - 1 + 1 by omega]
      · rw [show i + (j + 1) - 1 = i + j by omega]
        exact hx
theorem compactI_t {fu : Nat} {s : List Int} (hf : 1048577 ≤ fu) (hl : s.length ≤ 1048576) : M_slices_Compact_int_int fu s = some (cmpL s) := by
  unfold M_slices_Compact_int_int
  by_cases h2 : s.length < 2
  · rw [decide_eq_true (by omega), cond_true]
    match s, h2 with
    | [], _ => rfl
    | [x], _ => rfl
  · rw [decide_eq_false (by omega), cond_false]
    have key : ∀ m i k q, i + m = s.length → m < k → 0 < i → s[i - 1]? = some q → s.take i ++ cmpA q (s.drop i) = cmpL s →
        M_slices_Compact_int_int_L0 fu k (i : Int) s = some (Ex.ret (cmpL s)) ∨ (M_slices_Compact_int_int_L0 fu k (i : Int) s = some (Ex.go s) ∧ cmpL s = s) := by
      intro m
      induction m with
      | zero =>
        intro i k q hm hk hi hq hc
        obtain ⟨k, rfl⟩ : ∃ q, k = q + 1 := ⟨k - 1, by omega⟩
        obtain rfl : i = s.length := by omega
        right
        refine ⟨by rw [M_slices_Compact_int_int_L0, lt_f]; rfl, ?_⟩
        rw [List.drop_length, List.take_length] at hc
        simpa [cmpA] using hc.symm
      | succ m ih =>
        intro i k q hm hk hi hq hc
        obtain ⟨k, rfl⟩ : ∃ q, k = q + 1 := ⟨k - 1, by omega⟩
        have hlt : i < s.length := by omega
        have hx := List.getElem?_eq_getElem hlt
        have e1 : ((i : Int) - 1) = ((i - 1 : Nat) : Int) := by omega
        rw [M_slices_Compact_int_int_L0, lt_t hlt, cond_true, ck_t (inR_t hlt), ck_t (i64B_t (by omega) (by omega)), e1, ck_t (inR_t (by omega)), gtD_get hx, gtD_get hq]
        have hc' := hc
        rw [drop_cons hx, cmpA] at hc
        cases hb : (s[i] == q)
        · rw [cond_false, ck_t (i64B_n (by omega)), succ_i]
          rw [hb, cond_false] at hc
          refine ih (i + 1) k s[i] (by omega) (by omega) (by omega) (by rw [Nat.add_sub_cancel]; exact hx) ?_
          have ht : s.take (i + 1) = s.take i ++ [s[i]] := by rw [List.take_add_one, hx]; rfl
          rw [ht, List.append_assoc]
          exact hc
        · left
          rw [hb, cond_true] at hc
          obtain ⟨w', ys', h3, h4, h5, h6⟩ := compactI1_t (fu := fu) hl hi (s.length - i - 1) 1 i fu s s[i] (by omega) (by omega) (Nat.le_refl _) (by omega) rfl rfl (by rw [Nat.add_sub_cancel]; exact hx) hc
          rw [cond_true, ck_t (subR_d (Nat.le_of_lt hlt)), bd_eq, Int.toNat_natCast, Int.toNat_natCast, show ((1 : Int)) = ((1 : Nat) : Int) from rfl, h3, cl_true]
          simp only [h4, subR_iff.2 ⟨show (0 : Int) ≤ (w' : Int) by omega, show (w' : Int) ≤ (s.length : Int) by omega, show (s.length : Int) ≤ (s.length : Int) from Int.le_refl _⟩, bd_eq, Int.toNat_natCast, ck_tt, beq_self_eq_true]
          have e3 : (ys'.take w' ++ List.replicate (s.length - w') (0 : Int)) = (ys'.take w' ++ List.replicate (ys'.length - w') (0 : Int)) := by rw [h4]
          rw [e3, ck_t (by rw [zeros_length (by omega)]; exact subR_k (by omega)), sub_zeros (by omega), h6]
    obtain ⟨x0, t, hs⟩ : ∃ x t, s = x :: t := by
      cases s with
      | nil => simp at h2
      | cons x t => exact ⟨x, t, rfl⟩
    have hk := key (s.length - 1) 1 fu x0 (by omega) (by omega) (by omega) (by rw [hs]; rfl) (by rw [hs]; rfl)
    rw [show ((1 : Int)) = ((1 : Nat) : Int) from rfl]
    rcases hk with h | ⟨h, e⟩
    · rw [h]
      rfl
    · rw [h, e]
      rfl
end Go.Proofs.Ytmkgocdgkdglnaa

