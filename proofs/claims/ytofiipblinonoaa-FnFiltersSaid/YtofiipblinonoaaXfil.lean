/- Plain: what the law FnFilters asks. No statement of the seat is proved here. -/
import Derived.Test.YtofiipblinonoaaXqg
import Derived.Test.YtofiipblinonoaaXsim
import Derived.Test.YtofiipblinonoaaXdrw
namespace Go.Proofs.Ytofiipblinonoaa
open Go.RowKit
set_option linter.unusedVariables false
set_option linter.unusedSimpArgs false
theorem dPass_t {fu : Nat} {b : List Int} (hf : 1048577 ≤ fu) (hb : b.length ≤ 1048576) (hx : ∀ x ∈ b, 0 ≤ x ∧ x ≤ 255) : Sm (M_spec_DrawPassesFilters fu b) fun r => r.1.length ≤ 1000 ∧ r.2.1.length ≤ 1000 ∧ r.2.2 ≤ 4 := by
  unfold M_spec_DrawPassesFilters
  refine .cl (new_t hf hb hx) fun c hc => .cl (two_t hf hc) fun p hp => .cl (below_t hp.1) fun n hn => ?_
  have h1 := hn.2.1
  have h2 := hn.2.2 (by omega)
  exact .ck (i64B_t (by omega) (by omega)) (.some ⟨hp.2.1, hp.2.2, by show n.1 - 1 ≤ 4; omega⟩)
theorem dSim_t {fu : Nat} {b : List Int} (hf : 1048577 ≤ fu) (hb : b.length ≤ 1048576) (hx : ∀ x ∈ b, 0 ≤ x ∧ x ≤ 255) : Sm (M_spec_DrawSimilarStrings fu b) fun r => r.1.length ≤ 1000 := by
  unfold M_spec_DrawSimilarStrings
  have key : ∀ (m : Nat) k (cc : TCur) (acc : List (List UInt8)), m < k → m ≤ 50 → COK cc → acc.length + m ≤ 100 → Sm (M_spec_DrawSimilarStrings_L0 fu k (m : Int) cc acc) fun r => COK r.1 ∧ r.2.length ≤ 100 := by
    intro m
    induction m with
    | zero =>
      intro k cc acc hk hm hcc ha
      obtain ⟨k, rfl⟩ : ∃ q, k = q + 1 := ⟨k - 1, by omega⟩
      rw [M_spec_DrawSimilarStrings_L0, show decide ((0 : Int) < ((0 : Nat) : Int)) = false from rfl, cond_false]
      exact .some ⟨hcc, by show acc.length ≤ 100; omega⟩
    | succ m ih =>
      intro k cc acc hk hm hcc ha
      obtain ⟨k, rfl⟩ : ∃ q, k = q + 1 := ⟨k - 1, by omega⟩
      rw [M_spec_DrawSimilarStrings_L0, pos_i, cond_true, pred_i]
      refine .cl (l2Text_t hf hcc) fun p hp => .cl (norm_t hf (by have := hp.2; omega)) fun z _ => ?_
      refine .ck (lenOK_t (by rw [List.length_singleton]; omega)) (.ck (i64B_i _ (by omega)) (ih k p.2 _ (by omega) (by omega) hp.1 (by rw [List.length_append, List.length_singleton]; omega)))
  refine .cl (new_t hf hb hx) fun c hc => .cl (below_t hc) fun n hn => ?_
  have h1 := hn.2.1
  have h2 := hn.2.2 (by omega)
  obtain ⟨m, hm⟩ : ∃ m : Nat, n.1 = (m : Int) := ⟨n.1.toNat, by omega⟩
  rw [hm]
  refine .cl (key m fu n.2 [] (by omega) (by omega) hn.1 (by rw [List.length_nil]; omega)) fun s hs => .cl (l2Text_t hf hs.1) fun p hp => .cl (norm_t hf (by have := hp.2; omega)) fun z _ => .cl (below_t hp.1) fun y hy => ?_
  have h3 := hy.2.1
  have h4 := hy.2.2 (by omega)
  exact .ck (i64B_t (by omega) (by omega)) (.some (by have := hs.2; show s.2.length ≤ 1000; omega))
theorem at_t {fu : Nat} {b : List Int} (hx : ∀ x ∈ b, 0 ≤ x ∧ x ≤ 255) (hb : b.length ≤ 1048576) : Sm (M_laws_at fu b 0) fun r => 0 ≤ r ∧ r ≤ 255 := by
  unfold M_laws_at
  refine .bif (fun h => ?_) fun h => ?_
  · rw [decide_eq_true_eq] at h
    have hm := hx _ (gtD_mem (xs := b) (i := 0) (Int.le_refl _) h)
    refine .ck (inR_iff.2 ⟨Int.le_refl _, h⟩) (.some ?_)
    rw [i64_wrap (by omega) (by omega)]
    exact hm
  · rw [decide_eq_false_iff_not] at h
    refine .ck (i64B_t (by omega) (by omega)) (.ck (i64B_t (by omega) (by omega)) (.ck (i64B_t (by omega) (by omega)) (.ck rfl (.some ?_))))
    have := tmod_in (x := 0 * 37 + (b.length : Int) * 11) (n := 256) (by omega) (by omega)
    omega
theorem sameI_t {fu : Nat} {l : List Int} (hf : 1048577 ≤ fu) (hl : l.length ≤ 1048576) : M_laws_sameInts fu l l = some true := by
  unfold M_laws_sameInts
  have hn : ((l.length : Int) != (l.length : Int)) = false := bne_self_eq_false _
  rw [hn, cond_false]
  have h := loop_any (xs := l) (p := fun _ => false) (r := false) (L := M_laws_sameInts_L0 fu l l) (fun k i x hx => by
    have hi := at_lt hx
    rw [M_laws_sameInts_L0, lt_t hi, cond_true, ck_t (inR_t hi), ck_t (inR_t hi), bne_self_eq_false, cond_false, ck_t (i64B_n (by omega)), succ_i, cond_false]) (fun k => by rw [M_laws_sameInts_L0, lt_f, cond_false]) (show l.length < fu by omega)
  rw [h, cl_true]
  have : (l.any fun _ => false) = false := by
    rw [List.any_eq_false]
    intro x _ h
    cases h
  rw [this]
  rfl
def elim (x y t : Int) : Int := bif (inI x 0 40 && inI y 0 40) && inI t 0 1000 then (max x y * (1000 - t)).tdiv 1000 else -1
theorem elim_nums {x y t : Int} (h : ((inI x 0 40 && inI y 0 40) && inI t 0 1000) = true) : (0 ≤ x ∧ x ≤ 40) ∧ (0 ≤ y ∧ y ≤ 40) ∧ (0 ≤ t ∧ t ≤ 1000) ∧ 0 ≤ max x y * (1000 - t) ∧ max x y * (1000 - t) ≤ 40000 := by
  unfold inI at h
  simp only [Bool.and_eq_true, decide_eq_true_eq] at h
  have h1 : 0 ≤ max x y * (1000 - t) := Int.mul_nonneg (by omega) (by omega)
  have h2 : max x y * (1000 - t) ≤ 40 * (1000 - t) := Int.mul_le_mul_of_nonneg_right (by omega) (by omega)
  omega
theorem tdiv_in {n : Int} (h0 : 0 ≤ n) (h1 : n ≤ 40000) : 0 ≤ n.tdiv 1000 ∧ n.tdiv 1000 ≤ 40000 := by
  rw [Int.tdiv_eq_ediv_of_nonneg h0]
  omega
theorem implLim_t {fu : Nat} {x y t : Int} : M_impl_EditLimit fu x y t = some (elim x y t) := by
  unfold M_impl_EditLimit elim
  have e : ∀ a b c, M_impl_within fu a b c = some (inI a b c) := fun a b c => rfl
  simp only [e, cl_true, cl_if, bd_eq]
  cases h : (inI x 0 40 && inI y 0 40) && inI t 0 1000
  · cases h1 : inI x 0 40 <;> cases h2 : inI y 0 40 <;> cases h3 : inI t 0 1000 <;> first | rfl | (rw [h1, h2, h3] at h; cases h)
  · have hn := elim_nums h
    have hd := tdiv_in hn.2.2.2.1 hn.2.2.2.2
    simp only [Bool.and_eq_true] at h
    obtain ⟨⟨h1, h2⟩, h3⟩ := h
    rw [h1, h2, h3]
    simp only [Bool.not_true, Bool.or_false, beq_self_eq_true, Bool.and_self, cond_true, cond_false]
    rw [ck_t (i64B_t (by omega) (by omega)), ck_t (i64B_t (by omega) (by omega)), ck_t (show ((1000 : Int) != 0) = true from rfl), ck_t (i64B_t (by omega) (by omega))]
theorem specLim_t {fu : Nat} {x y t : Int} : M_spec_EditLimit fu x y t = some (elim x y t) := by
  unfold M_spec_EditLimit elim
  have hg : goodB x y 1 0 = (inI x 0 40 && inI y 0 40) := by
    unfold goodB
    rw [show inI 1 1 3 = true from rfl, show inI 0 0 40 = true from rfl, Bool.and_true, Bool.and_true]
  simp only [specGood_t, l1In_t, cl_true, cl_if, bd_eq, hg]
  cases h : (inI x 0 40 && inI y 0 40) && inI t 0 1000
  · cases h1 : inI x 0 40 <;> cases h2 : inI y 0 40 <;> cases h3 : inI t 0 1000 <;> first | rfl | (rw [h1, h2, h3] at h; cases h)
  · have hn := elim_nums h
    have hd := tdiv_in hn.2.2.2.1 hn.2.2.2.2
    simp only [Bool.and_eq_true] at h
    obtain ⟨⟨h1, h2⟩, h3⟩ := h
    rw [h1, h2, h3]
    simp only [Bool.not_true, Bool.or_false, beq_self_eq_true, Bool.and_self, cond_true, cond_false]
    rw [ck_t (i64B_t (by omega) (by omega)), ck_t (i64B_t (by omega) (by omega)), ck_t (show ((1000 : Int) != 0) = true from rfl), ck_t (i64B_t (by omega) (by omega))]
def escore (a b : List UInt8) : Int := bif decide (editD a b < 0) then 0 else bif (max (a.length : Int) (b.length : Int)) == 0 then 1000 else (1000 * (max (a.length : Int) (b.length : Int) - editD a b)).tdiv (max (a.length : Int) (b.length : Int))
theorem editD_in {a b : List UInt8} (h : ¬ editD a b < 0) : a.length ≤ 40 ∧ b.length ≤ 40 ∧ editD a b ≤ max (a.length : Int) (b.length : Int) := by
  unfold editD at h ⊢
  cases hd : decide (a.length ≤ 40) && decide (b.length ≤ 40)
  · rw [hd, cond_false] at h
    omega
  · rw [Bool.and_eq_true, decide_eq_true_eq, decide_eq_true_eq] at hd
    rw [cond_true]
    exact ⟨hd.1, hd.2, lv_max a b _ _ _ (Nat.le_refl _)⟩
theorem specScore_t {fu : Nat} {a b : List UInt8} (hf : 1048577 ≤ fu) : M_spec_EditScore fu a b = some (escore a b) := by
  unfold M_spec_EditScore escore
  rw [specDist_t hf, cl_true]
  cases h : decide (editD a b < 0)
  · rw [decide_eq_false_iff_not] at h
    obtain ⟨h1, h2, h3⟩ := editD_in h
    rw [cond_false, cond_false]
    cases hm : (max (a.length : Int) (b.length : Int)) == 0
    · have hm' : (max (a.length : Int) (b.length : Int)) ≠ 0 := by simpa using hm
      have e1 : 0 ≤ 1000 * (max (a.length : Int) (b.length : Int) - editD a b) := by omega
      have e2 : (1000 * (max (a.length : Int) (b.length : Int) - editD a b)).tdiv (max (a.length : Int) (b.length : Int)) ≤ 1000 * (max (a.length : Int) (b.length : Int) - editD a b) := by
        rw [Int.tdiv_eq_ediv_of_nonneg e1]
        exact Int.ediv_le_self _ e1
      have e3 : 0 ≤ (1000 * (max (a.length : Int) (b.length : Int) - editD a b)).tdiv (max (a.length : Int) (b.length : Int)) := Int.tdiv_nonneg e1 (by omega)
      rw [cond_false, cond_false, ck_t (i64B_t (by omega) (by omega)), ck_t (i64B_t (by omega) (by omega)), ck_t (show ((max (a.length : Int) (b.length : Int)) != 0) = true by rw [bne, hm]; rfl), ck_t (i64B_t (by omega) (by omega))]
    · rfl
  · rfl
theorem same_score {a b : List UInt8} {t : Int} (h0 : ¬ editD a b < 0) (h1 : ¬ elim a.length b.length t < 0) : (decide (t ≤ escore a b) == decide (editD a b ≤ elim a.length b.length t)) = true := by
  unfold elim at h1 ⊢
  cases h : (inI a.length 0 40 && inI b.length 0 40) && inI t 0 1000
  · rw [h, cond_false] at h1
    omega
  · rw [cond_true]
    have hn := elim_nums h
    obtain ⟨e1, e2, e3⟩ := editD_in h0
    unfold escore
    rw [decide_eq_false h0, cond_false, beq_iff_eq]
    cases hm : (max (a.length : Int) (b.length : Int)) == 0
    · have hm' : (max (a.length : Int) (b.length : Int)) ≠ 0 := by simpa using hm
      rw [cond_false]
      exact decide_eq_decide.2 (score_iff (by omega) (by omega) e3 hn.2.2.1.1 hn.2.2.1.2)
    · have hm' : (max (a.length : Int) (b.length : Int)) = 0 := by simpa using hm
      rw [cond_true, hm', Int.zero_mul, decide_eq_true hn.2.2.1.2]
      exact (decide_eq_true (show editD a b ≤ (0 : Int).tdiv 1000 by rw [Int.zero_tdiv]; omega)).symm
theorem cl_const {α β : Type} [Inhabited α] (o : Option α) (r : β) (g : Bool) : g = (true && (true == false)) → cl g o (fun _ => some r) = some r := by
  rintro rfl
  unfold cl
  rw [show (true && (true == false)) = false from rfl, cond_false]
theorem law_FnFilters {fu : Nat} {b : List Int} (hf : 1048577 ≤ fu) (hx : ∀ x ∈ b, 0 ≤ x ∧ x ≤ 255) : M_laws_FnFilters fu b = some true := by
  unfold M_laws_FnFilters M_laws_big
  rw [cl_true]
  cases hl : decide ((1048576 : Int) < (b.length : Int))
  · rw [decide_eq_false_iff_not] at hl
    have hb : b.length ≤ 1048576 := by omega
    rw [cond_false]
    obtain ⟨p, hp, p1, p2, p3⟩ := dPass_t hf hb hx
    obtain ⟨q, hq, q1⟩ := dSim_t hf hb hx
    obtain ⟨z, hz, z0, z1⟩ := at_t (fu := fu) hx hb
    rw [hp, cl_true, implPass_t hf (by omega) (by omega), cl_true, specPass_t hf (by omega) (by omega), cl_true, bne_self_eq_false, implLen_t (by omega) (by omega), specLen_t (by omega) (by omega)]
    simp only [cl_if, bd_eq, bne_self_eq_false, Bool.or_self, cond_false, beq_self_eq_true, Bool.and_self, cond_true, cl_true]
    rw [specDist_t hf, cl_true]
    cases hd : (decide ((0 : Int) ≤ editD p.1 p.2.1) && decide (editD p.1 p.2.1 ≤ p.2.2)) && !(passB p.1 p.2.1 p.2.2)
    · have hlen : (simL q.1 q.2.1 q.2.2).length ≤ 1048576 := by
        have := simL_len q.2.1 q.2.2 q.1.zipIdx []
        rw [List.length_zipIdx, List.length_nil] at this
        unfold simL
        omega
      rw [cond_false, hq, cl_true, implSim_t hf (by omega), cl_true, specSim_t hf (by omega), cl_true, sameI_t hf hlen, cl_true, Bool.not_true, cond_false, hz, cl_true, ck_t (i64B_t (by omega) (by omega)), ck_t (show ((1001 : Int) != 0) = true from rfl), implLim_t, cl_true, specLim_t, cl_true, bne_self_eq_false, cond_false]
      cases h46 : decide (editD p.1 p.2.1 < 0) || decide (elim p.1.length p.2.1.length ((z * 4).tmod 1001) < 0)
      · rw [Bool.or_eq_false_iff, decide_eq_false_iff_not, decide_eq_false_iff_not] at h46
        rw [show (true && (false == false)) = true from rfl, specScore_t hf, cl_true, same_score h46.1 h46.2, Bool.false_or]
      · simp only [Bool.true_or]
        exact cl_const _ _ _ rfl
    · rw [Bool.and_eq_true, Bool.and_eq_true, decide_eq_true_eq, decide_eq_true_eq, pass_of (by omega) (by omega) (by omega)] at hd
      exact absurd hd.2 (by decide)
  · rw [cond_true]
end Go.Proofs.Ytofiipblinonoaa

