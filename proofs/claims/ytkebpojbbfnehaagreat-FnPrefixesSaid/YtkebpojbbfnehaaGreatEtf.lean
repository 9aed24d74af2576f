/- Plain: tables of tokens, prefixes, orders; program and reference alike. No statement of the seat is proved here. -/
import Derived.Test.YtkebpojbbfnehaaGreatEts
import Derived.Test.YtkebpojbbfnehaaGreatEst
namespace Go.Proofs.YtkebpojbbfnehaaGreat
open Go.RowKit
set_option linter.unusedVariables false
set_option linter.unusedSimpArgs false

def frq (tb : List (List UInt8 × Int)) (t : List UInt8) : Int := match tb.find? (fun x => x.1 == t) with | some x => x.2 | none => 0
theorem specFreq_t {fu : Nat} {tb : List (List UInt8 × Int)} {t : List UInt8} (hf : 1048577 ≤ fu) (hl : tb.length ≤ 1048576) : M_spec_TokenFrequency fu tb t = some (frq tb t) := by
  unfold M_spec_TokenFrequency frq
  have h := loop_findv (xs := tb) (p := fun x => x.1 == t) (f := fun x => x.2) (L := M_spec_TokenFrequency_L0 fu tb t) (fun k i x hx => by
    have hi := at_lt hx
    rw [M_spec_TokenFrequency_L0, lt_t hi, cond_true]
    simp only [inR_t hi, gtD_get hx, ck_tt, i64B_c (show i ≤ 4294967296 by omega), succ_i]) (fun k => by rw [M_spec_TokenFrequency_L0, lt_f]; rfl) (show tb.length < fu by omega)
  rw [h, cl_true]
  cases tb.find? fun x => x.1 == t <;> rfl
theorem implFreq_t {fu : Nat} {tb : List (List UInt8 × Int)} {t : List UInt8} (hf : 1048577 ≤ fu) (hl : tb.length ≤ 1048576) : M_impl_TokenFrequency fu tb t = some (frq tb t) := by
  unfold M_impl_TokenFrequency frq
  have h := loop_findv (xs := tb) (p := fun x => x.1 == t) (f := fun x => x.2) (L := M_impl_TokenFrequency_L0 fu tb t) (fun k i x hx => by
    have hi := at_lt hx
    rw [M_impl_TokenFrequency_L0, lt_t hi, cond_true]
    simp only [inR_t hi, gtD_get hx, ck_tt, i64B_c (show i ≤ 4294967296 by omega), succ_i]) (fun k => by rw [M_impl_TokenFrequency_L0, lt_f]; rfl) (show tb.length < fu by omega)
  rw [h, cl_true]
  cases tb.find? fun x => x.1 == t <;> rfl
/-! ### the order of tokens -/
def tlt (tb : List (List UInt8 × Int)) (a b : List UInt8) : Bool := decide (frq tb a < frq tb b) || (frq tb a == frq tb b && bLt a b)
theorem sto_tlt (tb : List (List UInt8 × Int)) : Sto (tlt tb) := by
  refine ⟨fun a => ?_, fun a b c h k => ?_, fun a b h k => ?_⟩
  · unfold tlt
    rw [bLt_irrefl]
    simp
  · unfold tlt at *
    simp only [Bool.or_eq_true, Bool.and_eq_true, decide_eq_true_eq, beq_iff_eq] at *
    rcases h with h | ⟨h, h'⟩ <;> rcases k with k | ⟨k, k'⟩
    · exact .inl (by omega)
    · exact .inl (by omega)
    · exact .inl (by omega)
    · exact .inr ⟨by omega, bLt_trans h' k'⟩
  · unfold tlt at *
    simp only [Bool.or_eq_false_iff, Bool.and_eq_false_imp, decide_eq_false_iff_not, beq_iff_eq] at *
    have e : frq tb a = frq tb b := by omega
    exact bLt_tri (h.2 e) (k.2 e.symm)
theorem or_t {fu : Nat} {x y : Int} (hf : 1048577 ≤ fu) : M_cmp_Or_int fu [x, y] = some (if x ≠ 0 then x else y) := by
  unfold M_cmp_Or_int
  obtain ⟨f, rfl⟩ : ∃ f, fu = f + 3 := ⟨fu - 3, by omega⟩
  rw [M_cmp_Or_int_L0]
  by_cases hx : x = 0
  · subst hx
    rw [M_cmp_Or_int_L0]
    by_cases hy : y = 0
    · subst hy
      rw [M_cmp_Or_int_L0]
      rfl
    · have : (gtD [0, y] (0 + 1 : Int) != 0) = true := by
        show (y != 0) = true
        simpa using hy
      rw [this]
      simp [gtD, inR, cl_true, ck_tt, i64B, exM_ret]
  · have : (gtD [x, y] (0 : Int) != 0) = true := by
      show (x != 0) = true
      simpa using hx
    rw [this]
    simp [gtD, inR, cl_true, ck_tt, i64B, exM_ret, hx]
theorem cmpI_t {fu : Nat} {x y : Int} : M_cmp_Compare_int fu x y = some (if x < y then -1 else if y < x then 1 else 0) := by
  unfold M_cmp_Compare_int M_cmp_isNaN_int
  simp only [bne_self_eq_false', cl_true, cond_false]
  by_cases h : x < y
  · rw [decide_eq_true h, if_pos h]; rfl
  · rw [decide_eq_false h, if_neg h]
    by_cases h2 : y < x
    · rw [decide_eq_true h2, if_pos h2]; rfl
    · rw [decide_eq_false h2, if_neg h2]; rfl
def tcmp (tb : List (List UInt8 × Int)) (a b : List UInt8) : Int := if frq tb a < frq tb b then -1 else if frq tb b < frq tb a then 1 else (bif bLt a b then -1 else bif bLt b a then 1 else 0)
theorem tcmp_lt (tb : List (List UInt8 × Int)) (a b : List UInt8) : decide (tcmp tb a b < 0) = tlt tb a b := by
  unfold tcmp tlt
  by_cases h1 : frq tb a < frq tb b
  · simp [h1]
  · by_cases h2 : frq tb b < frq tb a
    · have : (frq tb a == frq tb b) = false := by simp; omega
      simp [h1, h2, this]
    · have : (frq tb a == frq tb b) = true := by simp; omega
      rw [if_neg h1, if_neg h2, this, decide_eq_false h1]
      cases bLt a b
      · cases bLt b a <;> rfl
      · rfl
theorem cmpT_t {fu : Nat} {tb : List (List UInt8 × Int)} {a b : List UInt8} (hf : 1048577 ≤ fu) (hl : tb.length ≤ 1048576) : M_impl_OrderTokens_1 fu a b tb = some (tcmp tb a b) := by
  unfold M_impl_OrderTokens_1 M_strCmp
  rw [implFreq_t hf hl, cl_true, implFreq_t hf hl, cl_true, cmpI_t, cl_true, cl_true, or_t hf, cl_true, cmpB_lt]
  unfold tcmp
  by_cases h1 : frq tb a < frq tb b
  · simp [h1]
  · by_cases h2 : frq tb b < frq tb a
    · simp [h1, h2]
    · simp [h1, h2]
theorem implOrder_t {fu : Nat} {tb : List (List UInt8 × Int)} {l : List (List UInt8)} (hf : 1048577 ≤ fu) (ht : tb.length ≤ 1048576) (hl : l.length ≤ 1048576) : M_impl_OrderTokens fu tb l = some (l.mergeSort fun x y => !(tlt tb y x)) := by
  unfold M_impl_OrderTokens
  rw [clone_t (by omega), cl_true]
  have hF : (fun x y => M_impl_OrderTokens_1 fu x y tb) = fun x y => some (tcmp tb x y) := by
    funext x y
    exact cmpT_t hf ht
  have S := sto_tlt tb
  rw [hF]
  unfold M_sortF
  rw [ck_t (lenOK_t (by omega)), ck_t]
  · rw [cl_true]
    congr 1
    have : (fun x y : List UInt8 => !(decide (gv (some (tcmp tb y x)) < 0))) = fun x y => !(tlt tb y x) := by
      funext x y
      rw [← tcmp_lt]
      rfl
    rw [this]
  · unfold sortOK
    simp only [List.all_eq_true, Bool.and_eq_true]
    intro x hx y hy
    have g : ∀ x y, gv (some (tcmp tb x y)) = tcmp tb x y := fun _ _ => rfl
    simp only [g, tcmp_lt, S.irr, Option.isSome_some, Bool.not_false]
    refine ⟨⟨⟨trivial, trivial⟩, ?_⟩, fun z hz => ⟨?_, ?_⟩⟩
    · cases h1 : tlt tb x y
      · cases h2 : tlt tb y x
        · have := S.tri x y h1 h2
          simp [this]
        · rfl
      · rfl
    · cases h1 : tlt tb x y
      · rfl
      · cases h2 : tlt tb y z
        · rfl
        · rw [S.tr _ _ _ h1 h2]
          rfl
    · cases h1 : tlt tb x y
      · cases h2 : tlt tb y z
        · rw [S.le_tr h2 h1]
          rfl
        · rfl
      · rfl
/-- the last place before which no element is after x, found from the end -/
theorem specOrder1_t {fu : Nat} {tb : List (List UInt8 × Int)} {l : List (List UInt8)} {i : Nat} {x : List UInt8} (hx : l[i]? = some x) (hf : 1048577 ≤ fu) (ht : tb.length ≤ 1048576) (o : List (List UInt8)) (ho : o.length ≤ 1048576) :
    ∀ j k, j ≤ o.length → j < k → ∃ q : Nat, M_spec_OrderTokens_L1 fu tb l (i : Int) o (frq tb x) k (j : Int) = some (q : Int) ∧ q ≤ j ∧ (∀ y ∈ (o.take j).drop q, tlt tb x y = true) ∧ (∀ y, 0 < q → o[q - 1]? = some y → tlt tb x y = false) := by
  intro j
  induction j with
  | zero =>
    intro k hj hk
    obtain ⟨k, rfl⟩ : ∃ q, k = q + 1 := ⟨k - 1, by omega⟩
    refine ⟨0, ?_, Nat.le_refl _, fun y hy => by simp at hy, fun y h => by omega⟩
    rw [M_spec_OrderTokens_L1]
    rfl
  | succ j ih =>
    intro k hj hk
    obtain ⟨k, rfl⟩ : ∃ q, k = q + 1 := ⟨k - 1, by omega⟩
    have hlt : j < o.length := by omega
    have hy := List.getElem?_eq_getElem hlt
    rw [M_spec_OrderTokens_L1]
    simp only [pos_i, pred_i, inR_t hlt, inR_t (at_lt hx), i64B_i j (by omega), gtD_get hy, gtD_get hx, specFreq_t hf ht, cl_if, bd_eq, Bool.or_true, ck_tt, Bool.true_and, beq_self_eq_true, cond_true]
    have hgt : tlt tb x o[j] = (decide (frq tb x < frq tb o[j]) || (frq tb x == frq tb o[j] && bLt x o[j])) := rfl
    have hnot : (!(bLt o[j] x || o[j] == x)) = bLt x o[j] := by
      cases h1 : bLt o[j] x
      · cases h2 : bLt x o[j]
        · have := bLt_tri h1 h2
          simp [this]
        · have : (o[j] == x) = false := by
            rw [beq_eq_false_iff_ne]
            intro e
            rw [e, bLt_irrefl] at h2
            cases h2
          rw [this]
          rfl
      · rw [bLt_asymm h1]
        rfl
    rw [hnot]
    have hcomm : (frq tb o[j] == frq tb x) = (frq tb x == frq tb o[j]) := Bool.beq_comm
    cases hc : tlt tb x o[j]
    · refine ⟨j + 1, ?_, Nat.le_refl _, fun y hy => (by rw [List.drop_take_self] at hy; cases hy), fun y _ hy' => ?_⟩
      · rw [hgt] at hc
        rw [Bool.or_eq_false_iff] at hc
        rw [hc.1]
        simp only [show (false == false) = true from rfl, cond_true, Bool.false_or, hcomm, hc.2, cond_false]
      · rw [Nat.add_sub_cancel] at hy'
        rw [hy] at hy'
        injection hy' with hy'
        rw [← hy']
        exact hc
    · obtain ⟨q, h1, h2, h3, h4⟩ := ih k (by omega) (by omega)
      refine ⟨q, ?_, by omega, fun y hy' => ?_, h4⟩
      · have : (decide (frq tb x < frq tb o[j]) || ((bif decide (frq tb x < frq tb o[j]) == false then frq tb o[j] else default) == frq tb x && bLt x o[j])) = true := by
          rw [hgt] at hc
          cases hd : decide (frq tb x < frq tb o[j])
          · rw [hd, Bool.false_or] at hc
            simp only [show (false == false) = true from rfl, cond_true, Bool.false_or, hcomm, hc]
          · rfl
        rw [this, cond_true]
        exact h1
      · have ht' : o.take (j + 1) = o.take j ++ [o[j]] := by rw [List.take_add_one, hy]; rfl
        rw [ht', List.drop_append_of_le_length (by simp; omega)] at hy'
        rcases List.mem_append.1 hy' with hy' | hy'
        · exact h3 y hy'
        · rw [List.mem_singleton.1 hy']
          exact hc
theorem specOrder_t {fu : Nat} {tb : List (List UInt8 × Int)} {l : List (List UInt8)} (hf : 1048577 ≤ fu) (ht : tb.length ≤ 1048576) (hl : l.length ≤ 1048576) : M_spec_OrderTokens fu tb l = some (l.mergeSort fun x y => !(tlt tb y x)) := by
  unfold M_spec_OrderTokens
  have S := sto_tlt tb
  have key : ∀ m i k o, i + m = l.length → m < k → o.length = i → SortedW (tlt tb) o → o.Perm (l.take i) → ∃ r, M_spec_OrderTokens_L0 fu tb l k (i : Int) o = some r ∧ SortedW (tlt tb) r ∧ r.Perm l := by
    intro m
    induction m with
    | zero =>
      intro i k o hm hk ho hs hp
      obtain ⟨k, rfl⟩ : ∃ q, k = q + 1 := ⟨k - 1, by omega⟩
      obtain rfl : i = l.length := by omega
      exact ⟨o, by rw [M_spec_OrderTokens_L0, lt_f]; rfl, hs, by rwa [List.take_length] at hp⟩
    | succ m ih =>
      intro i k o hm hk ho hs hp
      obtain ⟨k, rfl⟩ : ∃ q, k = q + 1 := ⟨k - 1, by omega⟩
      have hlt : i < l.length := by omega
      have hx := List.getElem?_eq_getElem hlt
      obtain ⟨q, h1, h2, h3, h4⟩ := specOrder1_t (fu := fu) hx hf ht o (by omega) o.length fu (Nat.le_refl _) (by omega)
      rw [List.take_length] at h3
      have hmin : min q o.length = q := Nat.min_eq_left h2
      have hins : o.take q ++ [l[i]] ++ o.drop q = insAt o q l[i] := by simp [insAt]
      rw [M_spec_OrderTokens_L0, lt_t hlt, cond_true, ck_t (inR_t hlt), gtD_get hx, specFreq_t hf ht, cl_true, h1, cl_true]
      simp only [bd_eq, subL_take, subL_drop, subR_k h2, subR_d h2, ck_tt, List.length_nil, List.length_append, List.length_take, List.length_drop, List.length_singleton, List.nil_append, Nat.zero_add, hmin, lenOK_t (show q ≤ 4294967296 by omega), lenOK_t (show q + 1 ≤ 4294967296 by omega), lenOK_t (show q + 1 + (o.length - q) ≤ 4294967296 by omega), inR_t hlt, i64B_c (show i ≤ 4294967296 by omega), succ_i, hins]
      refine ih (i + 1) k _ (by omega) (by omega) (by rw [insAt_length, ho]) ?_ ?_
      · refine pw_ins hs (fun y hy => ?_) fun y hy => S.asy (h3 y hy)
        -- what stands before the place is not after x: its last is not, and they are in order
        cases hq : q with
        | zero => rw [hq] at hy; cases hy
        | succ q' =>
          have hz := List.getElem?_eq_getElem (show q' < o.length by omega)
          have h5 := h4 o[q'] (by omega) (by rw [show q - 1 = q' by omega]; exact hz)
          rw [hq] at hy
          have ht' : o.take (q' + 1) = o.take q' ++ [o[q']] := by rw [List.take_add_one, hz]; rfl
          have hs' : (o.take q' ++ [o[q']]).Pairwise fun a b => tlt tb b a = false := ht' ▸ hs.sublist (List.take_sublist _ _)
          rw [ht'] at hy
          rcases List.mem_append.1 hy with hy | hy
          · exact S.le_tr ((List.pairwise_append.1 hs').2.2 y hy _ (List.mem_singleton.2 rfl)) h5
          · rw [List.mem_singleton.1 hy]
            exact h5
      · have ht' : l.take (i + 1) = l.take i ++ [l[i]] := by rw [List.take_add_one, hx]; rfl
        rw [ht']
        refine (insAt_perm o q l[i]).trans ?_
        refine (List.Perm.cons _ hp).trans ?_
        exact (List.perm_append_comm (l₁ := [l[i]]) (l₂ := l.take i))
  obtain ⟨r, h1, h2, h3⟩ := key l.length 0 fu [] (by omega) (by omega) rfl List.Pairwise.nil (by simp)
  rw [show ((0 : Nat) : Int) = 0 from rfl] at h1
  rw [h1, cl_true]
  congr 1
  exact sortedW_one S (h3.trans (List.mergeSort_perm l _).symm) h2 (sort_sorted S l)
/-! ### lengths of prefixes -/
def goodLT (n t : Int) : Bool := (decide (0 ≤ n) && decide (n ≤ 1000)) && (decide (1 ≤ t) && decide (t ≤ 1000))
def lowB (n t : Int) : Int := (n * t + 999) / 1000
def highB (n t : Int) : Int := n * 1000 / t
theorem good_iff {n t : Int} : goodLT n t = true ↔ 0 ≤ n ∧ n ≤ 1000 ∧ 1 ≤ t ∧ t ≤ 1000 := by
  unfold goodLT
  simp only [Bool.and_eq_true, decide_eq_true_eq]
  omega
theorem mul_b {n t : Int} (h : goodLT n t = true) : 0 ≤ n * t ∧ n * t ≤ 1000000 := by
  obtain ⟨h1, h2, h3, h4⟩ := good_iff.1 h
  have h5 : 0 ≤ n * t := Int.mul_nonneg h1 (by omega)
  have h6 : n * t ≤ 1000 * 1000 := Int.mul_le_mul h2 h4 (by omega) (by omega)
  omega
theorem div_b {n t : Int} (h : goodLT n t = true) : 0 ≤ n * 1000 / t ∧ n * 1000 / t ≤ 1000000 := by
  obtain ⟨h1, h2, h3, h4⟩ := good_iff.1 h
  have h5 : 0 ≤ n * 1000 := by omega
  exact ⟨Int.ediv_nonneg h5 (by omega), by have := Int.ediv_le_self t h5; omega⟩
theorem specGood_t {fu : Nat} {n t : Int} : M_spec_l5Good fu n 0 t = some (goodLT n t) := by
  unfold M_spec_l5Good M_spec_l1In goodLT
  simp only [bd_eq, cl_if, cl_true]
  cases (decide ((0 : Int) ≤ n) && decide (n ≤ 1000)) <;> cases (decide ((1 : Int) ≤ t) && decide (t ≤ 1000)) <;> rfl
theorem specBounds_t {fu : Nat} {n t : Int} : M_spec_LengthBounds fu n t = some (bif goodLT n t then (lowB n t, highB n t) else (-1, -1)) := by
  unfold M_spec_LengthBounds
  rw [specGood_t, cl_true]
  cases hg : goodLT n t
  · rfl
  · obtain ⟨h1, h2, h3, h4⟩ := good_iff.1 hg
    obtain ⟨m1, m2⟩ := mul_b hg
    obtain ⟨d1, d2⟩ := div_b hg
    have e1 : (n * t + 999).tdiv 1000 = lowB n t := Int.tdiv_eq_ediv_of_nonneg (by omega)
    have e2 : (n * 1000).tdiv t = highB n t := Int.tdiv_eq_ediv_of_nonneg (by omega)
    have ht : (t != 0) = true := by simp; omega
    have l1 : 0 ≤ lowB n t ∧ lowB n t ≤ 1000999 := by unfold lowB; omega
    have l2 : 0 ≤ highB n t ∧ highB n t ≤ 1000000 := ⟨d1, d2⟩
    rw [Bool.not_true, cond_false, ck_t (i64B_t (by omega) (by omega)), ck_t (i64B_t (by omega) (by omega)), ck_t (by decide), e1, e2, ck_t (i64B_t (by omega) (by omega)), ck_t (i64B_t (by omega) (by omega)), ck_t ht, ck_t (i64B_t (by omega) (by omega))]
    rfl
theorem implBounds_t {fu : Nat} {n t : Int} : M_impl_LengthBounds fu n t = some (bif goodLT n t then (lowB n t, highB n t) else (-1, -1)) := by
  unfold M_impl_LengthBounds M_impl_isSize M_impl_isThreshold M_impl_within M_impl_ceilDiv
  simp only [bd_eq, cl_true]
  simp only [cl_if]
  cases hg : goodLT n t
  · unfold goodLT at hg
    generalize (decide ((0 : Int) ≤ n) && decide (n ≤ 1000)) = s at hg ⊢
    generalize (decide ((1 : Int) ≤ t) && decide (t ≤ 1000)) = d at hg ⊢
    cases s <;> cases d <;> first | rfl | cases hg
  · obtain ⟨h1, h2, h3, h4⟩ := good_iff.1 hg
    obtain ⟨m1, m2⟩ := mul_b hg
    obtain ⟨d1, d2⟩ := div_b hg
    have e1 : (n * t + 1000 - 1).tdiv 1000 = lowB n t := by
      rw [show n * t + 1000 - 1 = n * t + 999 by omega]
      exact Int.tdiv_eq_ediv_of_nonneg (by omega)
    have e2 : (n * 1000).tdiv t = highB n t := Int.tdiv_eq_ediv_of_nonneg (by omega)
    have ht : (t != 0) = true := by simp; omega
    have l1 : 0 ≤ lowB n t ∧ lowB n t ≤ 1000999 := by unfold lowB; omega
    have l2 : 0 ≤ highB n t ∧ highB n t ≤ 1000000 := ⟨d1, d2⟩
    rw [decide_eq_true h1, decide_eq_true h2, decide_eq_true h3, decide_eq_true h4, e1, e2]
    simp only [Bool.and_self, Bool.not_true, show (false == false) = true from rfl, cond_true, Bool.or_self, cond_false]
    rw [ck_t (i64B_t (by omega) (by omega)), ck_t (i64B_t (by omega) (by omega)), ck_t (i64B_t (by omega) (by omega)), ck_t (by decide), ck_t (i64B_t (by omega) (by omega)), cl_true, ck_t (i64B_t (by omega) (by omega)), ck_t ht, ck_t (i64B_t (by omega) (by omega))]
def preL (n t : Int) : Int := bif goodLT n t then (if n = 0 then 0 else n - lowB n t + 1) else -1
theorem specPre_t {fu : Nat} {n t : Int} : M_spec_PrefixLength fu n t = some (preL n t) := by
  unfold M_spec_PrefixLength preL
  rw [specGood_t, cl_true]
  cases hg : goodLT n t
  · rfl
  · obtain ⟨h1, h2, h3, h4⟩ := good_iff.1 hg
    obtain ⟨m1, m2⟩ := mul_b hg
    have l1 : 0 ≤ lowB n t ∧ lowB n t ≤ 1000999 := by unfold lowB; omega
    by_cases h0 : n = 0
    · have e : (n == 0) = true := by simpa using h0
      rw [e, if_pos h0]
      rfl
    · have e : (n == 0) = false := by simpa using h0
      rw [e, if_neg h0, specBounds_t, hg, cl_true]
      simp only [Bool.not_true, cond_false, cond_true]
      rw [ck_t (i64B_t (by omega) (by omega)), ck_t (i64B_t (by omega) (by omega))]
theorem implPre_t {fu : Nat} {n t : Int} : M_impl_PrefixLength fu n t = some (preL n t) := by
  unfold M_impl_PrefixLength preL
  rw [implBounds_t, cl_true]
  cases hg : goodLT n t
  · rfl
  · obtain ⟨h1, h2, h3, h4⟩ := good_iff.1 hg
    obtain ⟨m1, m2⟩ := mul_b hg
    have l1 : 0 ≤ lowB n t ∧ lowB n t ≤ 1000999 := by unfold lowB; omega
    have e2 : decide (lowB n t < 0) = false := decide_eq_false (by omega)
    simp only [cond_true, e2, Bool.false_or, bd_eq]
    by_cases h0 : n = 0
    · have e : (n == 0) = true := by simpa using h0
      rw [e, if_pos h0, cond_true]
      have : lowB n t = 0 := by unfold lowB; subst h0; simp
      rw [this]
      rfl
    · have e : (n == 0) = false := by simpa using h0
      rw [e, if_neg h0, cond_false, ck_t (i64B_t (by omega) (by omega)), ck_t (i64B_t (by omega) (by omega))]
theorem preL_le {n t : Int} (h : 0 ≤ preL n t) (hn : 0 ≤ n) : preL n t ≤ n := by
  unfold preL at *
  cases hg : goodLT n t
  · rw [hg] at h
    simp at h
  · rw [hg, cond_true] at h
    rw [cond_true]
    obtain ⟨h1, h2, h3, h4⟩ := good_iff.1 hg
    split
    · omega
    · have : 1 ≤ n * t := by
        have := Int.mul_le_mul (show (1 : Int) ≤ n by omega) h3 (by omega) (by omega)
        omega
      unfold lowB
      omega
/-! ### prefixes of sets -/
def ordL (tb : List (List UInt8 × Int)) (l : List (List UInt8)) : List (List UInt8) := l.mergeSort fun x y => !(tlt tb y x)
def preT (tb : List (List UInt8 × Int)) (l : List (List UInt8)) (t : Int) : List (List UInt8) := bif (!(tokB l)) || decide (preL l.length t < 0) then [] else (ordL tb l).take (preL l.length t).toNat
theorem specPreT_t {fu : Nat} {tb : List (List UInt8 × Int)} {l : List (List UInt8)} {t : Int} (hf : 1048577 ≤ fu) (ht : tb.length ≤ 1048576) (hl : l.length ≤ 1048576) (he : ∀ t ∈ l, t.length ≤ 1048576) : M_spec_PrefixTokens fu tb l t = some (preT tb l t) := by
  unfold M_spec_PrefixTokens preT
  rw [specPre_t, cl_true, spec_tok hf hl he, cl_true, bd_eq]
  cases hc : ((!(tokB l)) || decide (preL l.length t < 0))
  · rw [cond_false, cond_false, specOrder_t hf ht hl, cl_true]
    rw [Bool.or_eq_false_iff, decide_eq_false_iff_not] at hc
    have h1 := preL_le (n := l.length) (t := t) (by omega) (by omega)
    obtain ⟨q, hq⟩ := Int.eq_ofNat_of_zero_le (show 0 ≤ preL l.length t by omega)
    rw [hq] at h1 ⊢
    rw [ck_t (subR_k (by rw [List.length_mergeSort]; omega)), subL_take]
    rfl
  · rfl
theorem implPreT_t {fu : Nat} {tb : List (List UInt8 × Int)} {l : List (List UInt8)} {t : Int} (hf : 1048577 ≤ fu) (ht : tb.length ≤ 1048576) (hl : l.length ≤ 1048576) (he : ∀ t ∈ l, t.length ≤ 1048576) : M_impl_PrefixTokens fu tb l t = some (preT tb l t) := by
  unfold M_impl_PrefixTokens preT
  rw [implPre_t, cl_true, impl_tok hf hl he, cl_true, bd_eq]
  cases hc : ((!(tokB l)) || decide (preL l.length t < 0))
  · rw [cond_false, cond_false, implOrder_t hf ht hl, cl_true]
    rw [Bool.or_eq_false_iff, decide_eq_false_iff_not] at hc
    have h1 := preL_le (n := l.length) (t := t) (by omega) (by omega)
    obtain ⟨q, hq⟩ := Int.eq_ofNat_of_zero_le (show 0 ≤ preL l.length t by omega)
    rw [hq] at h1 ⊢
    rw [ck_t (subR_k (by rw [List.length_mergeSort]; omega)), subL_take, clone_t (by simp; omega), cl_true]
    rfl
  · rfl
theorem preT_length (tb : List (List UInt8 × Int)) (l : List (List UInt8)) (t : Int) : (preT tb l t).length ≤ l.length := by
  unfold preT
  cases ((!(tokB l)) || decide (preL l.length t < 0))
  · rw [cond_false, List.length_take]
    unfold ordL
    rw [List.length_mergeSort]
    omega
  · exact Nat.zero_le _
theorem preT_sub {tb : List (List UInt8 × Int)} {l : List (List UInt8)} {t : Int} {x : List UInt8} (h : x ∈ preT tb l t) : x ∈ l := by
  unfold preT at h
  cases hc : ((!(tokB l)) || decide (preL l.length t < 0))
  · rw [hc, cond_false] at h
    have := List.mem_of_mem_take h
    unfold ordL at this
    exact List.mem_mergeSort.1 this
  · rw [hc] at h
    cases h
def comB (a b : List (List UInt8)) : List (List UInt8) := (setL a).filter fun x => b.any fun y => y == x
def shareB (tb : List (List UInt8 × Int)) (a b : List (List UInt8)) (t : Int) : Bool := decide ((0 : Int) < ((comB (preT tb a t) (preT tb b t)).length : Int))
theorem specShare_t {fu : Nat} {tb : List (List UInt8 × Int)} {a b : List (List UInt8)} {t : Int} (hf : 1048577 ≤ fu) (ht : tb.length ≤ 1048576) (ha : a.length ≤ 1048576) (hea : ∀ t ∈ a, t.length ≤ 1048576) (hb : b.length ≤ 1048576) (heb : ∀ t ∈ b, t.length ≤ 1048576) : M_spec_SharePrefix fu tb a b t = some (shareB tb a b t) := by
  unfold M_spec_SharePrefix
  have h1 := preT_length tb a t
  have h2 := preT_length tb b t
  rw [specPreT_t hf ht ha hea, cl_true, specPreT_t hf ht hb heb, cl_true, specCommon_t hf (by omega) (by omega), cl_true, common_eq]
  rfl
theorem implShare_t {fu : Nat} {tb : List (List UInt8 × Int)} {a b : List (List UInt8)} {t : Int} (hf : 1048577 ≤ fu) (ht : tb.length ≤ 1048576) (ha : a.length ≤ 1048576) (hea : ∀ t ∈ a, t.length ≤ 1048576) (hb : b.length ≤ 1048576) (heb : ∀ t ∈ b, t.length ≤ 1048576) : M_impl_SharePrefix fu tb a b t = some (shareB tb a b t) := by
  unfold M_impl_SharePrefix
  have h1 := preT_length tb a t
  have h2 := preT_length tb b t
  rw [implPreT_t hf ht ha hea, cl_true, implPreT_t hf ht hb heb, cl_true, implCommon_t hf (by omega) (by omega), cl_true]
  rfl
end Go.Proofs.YtkebpojbbfnehaaGreat

