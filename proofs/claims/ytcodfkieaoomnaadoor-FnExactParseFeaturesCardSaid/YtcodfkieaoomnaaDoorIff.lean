/- Plain: what the law FormatFeatures asks. No statement of the seat is proved here. -/
import Derived.Test.YtcodfkieaoomnaaDoorIfi
import Derived.Test.YtcodfkieaoomnaaDoorIfv
import Derived.Test.YtcodfkieaoomnaaDoorIh
namespace Go.Proofs.YtcodfkieaoomnaaDoor
open Go.RowKit
set_option linter.unusedVariables false
set_option linter.unusedSimpArgs false

theorem fv_nums {xs : List Int} (h : fvB xs = true) : xs.length = 6 ∧ ∀ (i : Nat) x, xs[i]? = some x → 0 ≤ x ∧ x ≤ 1000 := by
  unfold fvB at h
  rw [Bool.and_eq_true] at h
  have hl : xs.length = 6 := by
    have := h.2
    rw [beq_iff_eq] at this
    omega
  refine ⟨hl, fun i x hx => ?_⟩
  have hn : findB (fun k => !inI (gtD xs k) 0 1000) 0 xs.length = none := by
    cases hq : findB (fun k => !inI (gtD xs k) 0 1000) 0 xs.length with
    | none => rfl
    | some j => rw [hq] at h; simp at h
  have := findB_none hn i (Nat.zero_le _) (by have := at_lt hx; omega)
  rw [gtD_get hx] at this
  simp only [Bool.not_eq_false'] at this
  unfold inI at this
  rw [Bool.and_eq_true, decide_eq_true_eq, decide_eq_true_eq] at this
  exact this
/-- the text of one feature -/
def featT (xs : List Int) (i : Nat) : List UInt8 := gtD featL (i : Int) ++ [61] ++ Lib.itoa (gtD xs (i : Int))
def featsT (xs : List Int) : List (List UInt8) := (List.range xs.length).map (featT xs)
theorem featsT_at {xs : List Int} {i : Nat} (h : i < xs.length) : (featsT xs)[i]? = some (featT xs i) := by
  simp only [featsT, List.getElem?_map, List.getElem?_range h]
  rfl
theorem implFF_t {fu : Nat} {xs : List Int} (hf : 1048577 ≤ fu) (hx : xs.length ≤ 1048576) : M_impl_FormatFeatures fu xs = some (bif fvB xs then jn [32] (featsT xs) else []) := by
  unfold M_impl_FormatFeatures
  rw [impl_fv hx hf, cl_true]
  cases hv : fvB xs
  · rfl
  · obtain ⟨hl, hb⟩ := fv_nums hv
    have hlen : ∀ i, i < xs.length → (featT xs i).length ≤ 28 := fun i hi => by
      have := hb i _ (List.getElem?_eq_getElem hi)
      have h1 := feat_len (i : Int)
      have h2 := itoa_le (n := gtD xs (i : Int)) (by rw [gtD_get (List.getElem?_eq_getElem hi)]; omega) (by rw [gtD_get (List.getElem?_eq_getElem hi)]; omega)
      unfold featT
      simp only [List.length_append, List.length_cons, List.length_nil]
      omega
    have h := loop_fill (xs := featsT xs) (L := M_impl_FormatFeatures_L0 fu xs) (fun k i ys x hi hy hx => by
      have hi' : i < xs.length := by simpa [featsT] using hi
      rw [featsT_at hi'] at hx
      injection hx with hx
      subst hx
      have hb' := hb i _ (List.getElem?_eq_getElem hi')
      have h0 := hlen i hi'
      have h1 := feat_len (i : Int)
      unfold featT at h0
      have hg : gtD xs (i : Int) = xs[i] := gtD_get (List.getElem?_eq_getElem hi')
      rw [M_impl_FormatFeatures_L0, lt_t hi', cond_true, ck_t (inR_t hi'), ck_t (featIn (by omega) (by omega)), ck_t (lenOK_s (by simp only [List.length_append, List.length_cons, List.length_nil]; omega)), implFI_t (by rw [hg]; omega) (by rw [hg]; omega), cl_true, ck_t (lenOK_s (by omega)), ck_t (inR_t (by omega)), ck_t (i64B_n (by omega)), set_nat, succ_i]
      rfl) (fun k ys => by
      rw [show (featsT xs).length = xs.length by simp [featsT], M_impl_FormatFeatures_L0, lt_f]
      rfl) xs.length 0 fu (List.replicate ((xs.length : Int)).toNat []) (by simp [featsT]) (by omega) (by simp [featsT]) rfl
    rw [show ((0 : Nat) : Int) = 0 from rfl] at h
    have hj := jn_len [32] 28 (featsT xs) (fun x hx => by
      obtain ⟨i, hi, rfl⟩ := List.mem_map.1 hx
      exact hlen i (List.mem_range.1 hi))
    rw [show (featsT xs).length = 6 by simp [featsT, hl]] at hj
    rw [Bool.not_true, cond_false, ck_t (mkOK_t (by omega)), h, cl_true, join_t (by rw [show (featsT xs).length = 6 by simp [featsT, hl]]; omega) (by simp at hj; omega)]
    rfl
theorem specFF_t {fu : Nat} {xs : List Int} (hf : 1048577 ≤ fu) (hx : xs.length ≤ 1048576) : M_spec_FormatFeatures fu xs = some (bif fvB xs then jn [32] (featsT xs) else []) := by
  unfold M_spec_FormatFeatures
  rw [spec_fv hx hf, cl_true]
  cases hv : fvB xs
  · rfl
  · obtain ⟨hl, hb⟩ := fv_nums hv
    have key : ∀ m i k (acc : List UInt8), i + m = xs.length → m < k → acc = jn [32] ((featsT xs).take i) → acc.length ≤ 30 * i → M_spec_FormatFeatures_L0 fu xs k acc (i : Int) = some (jn [32] (featsT xs)) := by
      intro m
      induction m with
      | zero =>
        intro i k acc hi hk ha hal
        obtain ⟨k, rfl⟩ : ∃ q, k = q + 1 := ⟨k - 1, by omega⟩
        obtain rfl : i = xs.length := by omega
        rw [M_spec_FormatFeatures_L0, lt_f, cond_false, ha, List.take_of_length_le (by simp [featsT])]
      | succ m ih =>
        intro i k acc hi hk ha hal
        obtain ⟨k, rfl⟩ : ∃ q, k = q + 1 := ⟨k - 1, by omega⟩
        have hlt : i < xs.length := by omega
        have hb' := hb i _ (List.getElem?_eq_getElem hlt)
        have hg : gtD xs (i : Int) = xs[i] := gtD_get (List.getElem?_eq_getElem hlt)
        have h1 := feat_len (i : Int)
        have h2 := itoa_le (n := gtD xs (i : Int)) (by rw [hg]; omega) (by rw [hg]; omega)
        have ht : (featsT xs).take (i + 1) = (featsT xs).take i ++ [featT xs i] := by rw [List.take_add_one, featsT_at hlt]; rfl
        rw [M_spec_FormatFeatures_L0, lt_t hlt, cond_true]
        rcases Nat.eq_zero_or_pos i with rfl | hp
        · have h0 : acc = [] := by rw [ha]; rfl
          subst h0
          rw [show decide ((0 : Int) < ((0 : Nat) : Int)) = false from rfl, cond_false, specName_t (by omega) (by omega), cl_true, ck_t (lenOK_s (by simp only [List.length_append, List.length_cons, List.length_nil]; omega)), ck_t (lenOK_s (by simp only [List.length_append, List.length_cons, List.length_nil]; omega)), ck_t (inR_t hlt), specFI_t hf (by rw [hg]; omega) (by rw [hg]; omega), cl_true, ck_t (lenOK_s (by simp only [List.length_append, List.length_cons, List.length_nil]; omega)), ck_t (i64B_n (by omega)), succ_i]
          refine ih 1 k _ (by omega) (by omega) ?_ (by simp only [List.length_append, List.length_cons, List.length_nil]; omega)
          rw [ht, List.take_zero, List.nil_append, List.nil_append, jn_one]
          rfl
        · rw [show decide ((0 : Int) < (i : Int)) = true from decide_eq_true (by omega), cond_true, ck_t (lenOK_s (by simp only [List.length_append, List.length_cons, List.length_nil]; omega)), specName_t (by omega) (by omega), cl_true, ck_t (lenOK_s (by simp only [List.length_append, List.length_cons, List.length_nil]; omega)), ck_t (lenOK_s (by simp only [List.length_append, List.length_cons, List.length_nil]; omega)), ck_t (inR_t hlt), specFI_t hf (by rw [hg]; omega) (by rw [hg]; omega), cl_true, ck_t (lenOK_s (by simp only [List.length_append, List.length_cons, List.length_nil]; omega)), ck_t (i64B_n (by omega)), succ_i]
          refine ih (i + 1) k _ (by omega) (by omega) ?_ (by simp; omega)
          rw [ht, jn_snoc _ _ _ (by
            intro he
            have := congrArg List.length he
            rw [List.length_take, show (featsT xs).length = xs.length by simp [featsT], List.length_nil] at this
            omega), ← ha]
          unfold featT
          simp only [List.append_assoc]
    have := key xs.length 0 fu [] (by omega) (by omega) rfl (Nat.le_refl _)
    rw [show ((0 : Nat) : Int) = 0 from rfl] at this
    rw [Bool.not_true, cond_false, this, cl_true]
    rfl
theorem hs_FormatFeatures {a0 : List Int} (h0 : (qS qI) a0) (hx : a0.length ≤ 1048576) : ∃ r : List UInt8, M_spec_FormatFeatures 1048577 a0 = some r ∧ M_impl_FormatFeatures 1048577 a0 = some r :=
  ⟨_, specFF_t (Nat.le_refl _) hx, implFF_t (Nat.le_refl _) hx⟩
end Go.Proofs.YtcodfkieaoomnaaDoor

