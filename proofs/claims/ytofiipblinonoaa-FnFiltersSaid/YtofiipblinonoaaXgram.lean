/- Plain: what the laws GramFilter, PassesFilters ask. No statement of the seat is proved here. -/
import Derived.Test.YtofiipblinonoaaXmj
import Derived.Test.YtofiipblinonoaaXh
namespace Go.Proofs.Ytofiipblinonoaa
open Go.RowKit
set_option linter.unusedVariables false
set_option linter.unusedSimpArgs false

def gramAt (s : List UInt8) (q i : Nat) : List UInt8 := (s.drop i).take q
def gramsL (s : List UInt8) (q : Nat) : List (List UInt8) := (List.range (s.length + 1 - q)).map (gramAt s q)
/-- the grams in ascending order -/
def gramS (s : List UInt8) (q : Nat) : List (List UInt8) := (gramsL s q).mergeSort fun x y => !(bLt y x)
theorem gramS_sorted (s : List UInt8) (q : Nat) : SortedW bLt (gramS s q) := sort_sorted sto_bLt _
theorem gramS_len (s : List UInt8) (q : Nat) : (gramS s q).length = s.length + 1 - q := by simp [gramS, gramsL]
theorem subL_gram (s : List UInt8) (q i : Nat) : subL s (i : Int) ((i : Int) + (q : Int)) = gramAt s q i := by
  unfold subL gramAt
  congr 1
  omega
theorem implQ_L {fu : Nat} {s : List UInt8} {q : Nat} (hq : 1 ≤ q) (hq3 : q ≤ 3) (hs : s.length ≤ 1048576) : ∀ m i k acc, i + m = s.length + 1 - q → m < k → acc.length ≤ i → M_impl_QGrams_L0 fu s (q : Int) k (i : Int) acc = some (acc ++ (List.range' i m).map (gramAt s q)) := by
  intro m
  induction m with
  | zero =>
    intro i k acc hi hk hacc
    obtain ⟨k, rfl⟩ : ∃ q, k = q + 1 := ⟨k - 1, by omega⟩
    rw [M_impl_QGrams_L0, ck_t (i64B_t (by omega) (by omega)), decide_eq_false (by omega), cond_false]
    simp
  | succ m ih =>
    intro i k acc hi hk hacc
    obtain ⟨k, rfl⟩ : ∃ q, k = q + 1 := ⟨k - 1, by omega⟩
    rw [M_impl_QGrams_L0, ck_t (i64B_t (by omega) (by omega)), decide_eq_true (by omega), cond_true, ck_t (i64B_t (by omega) (by omega)), ck_t (subR_iff.2 ⟨by omega, by omega, by omega⟩), subL_gram, List.length_singleton, ck_t (lenOK_t (by omega)), ck_t (i64B_n (by omega)), succ_i,
      ih (i + 1) k _ (by omega) (by omega) (by rw [List.length_append, List.length_singleton]; omega), List.range'_succ, List.map_cons, List.append_assoc]
    rfl
theorem specQ_L {fu : Nat} {s : List UInt8} {q : Nat} (hq : 1 ≤ q) (hq3 : q ≤ 3) (hs : s.length ≤ 1048576) (hf : 1048577 ≤ fu) : ∀ m i k acc, i + m = s.length + 1 - q → m < k → acc.length ≤ i → M_spec_QGrams_L0 fu s (q : Int) k acc (i : Int) = some (((List.range' i m).map (gramAt s q)).foldl (putW bLt) acc) := by
  intro m
  have hin : inI (q : Int) 1 3 = true := by
    unfold inI
    rw [decide_eq_true (by omega), decide_eq_true (by omega)]; rfl
  induction m with
  | zero =>
    intro i k acc hi hk hacc
    obtain ⟨k, rfl⟩ : ∃ q, k = q + 1 := ⟨k - 1, by omega⟩
    rw [M_spec_QGrams_L0, ck_t (i64B_t (by omega) (by omega)), decide_eq_false (by omega)]
    simp only [l1In_t, cl_if, bd_eq, Bool.false_and, cond_false]
    rfl
  | succ m ih =>
    intro i k acc hi hk hacc
    obtain ⟨k, rfl⟩ : ∃ q, k = q + 1 := ⟨k - 1, by omega⟩
    rw [M_spec_QGrams_L0, ck_t (i64B_t (by omega) (by omega)), decide_eq_true (by omega), l1In_t, hin]
    simp only [cl_if, bd_eq, Bool.and_self, beq_self_eq_true, cond_true]
    rw [ck_t (i64B_t (by omega) (by omega)), ck_t (subR_iff.2 ⟨by omega, by omega, by omega⟩), subL_gram, put_t (by omega) (by omega), cond_true, cl_true, ck_t (i64B_n (by omega)), succ_i,
      ih (i + 1) k _ (by omega) (by omega) (by unfold putW; rw [insAt_length]; omega), List.range'_succ, List.map_cons, List.foldl_cons]
theorem implQ_t {fu : Nat} {s : List UInt8} {q : Nat} (hq : 1 ≤ q) (hq3 : q ≤ 3) (hs : s.length ≤ 1048576) (hf : 1048577 ≤ fu) : M_impl_QGrams fu s (q : Int) = some (gramS s q) := by
  unfold M_impl_QGrams
  have hin : inI (q : Int) 1 3 = true := by
    unfold inI
    rw [decide_eq_true (by omega), decide_eq_true (by omega)]; rfl
  rw [show M_impl_within fu (q : Int) 1 3 = some (inI (q : Int) 1 3) from rfl, cl_true, hin, Bool.not_true, cond_false]
  have := implQ_L (fu := fu) hq hq3 hs (s.length + 1 - q) 0 fu [] (by omega) (by omega) (Nat.le_refl _)
  rw [show ((0 : Nat) : Int) = 0 from rfl, List.nil_append, ← List.range_eq_range'] at this
  rw [this, cl_true, sortS_t (by simp; omega), cl_true]
  rfl
theorem specQ_t {fu : Nat} {s : List UInt8} {q : Nat} (hq : 1 ≤ q) (hq3 : q ≤ 3) (hs : s.length ≤ 1048576) (hf : 1048577 ≤ fu) : M_spec_QGrams fu s (q : Int) = some (gramS s q) := by
  unfold M_spec_QGrams
  have := specQ_L (fu := fu) hq hq3 hs hf (s.length + 1 - q) 0 fu [] (by omega) (by omega) (Nat.le_refl _)
  rw [show ((0 : Nat) : Int) = 0 from rfl, ← List.range_eq_range'] at this
  rw [this, cl_true]
  congr 1
  obtain ⟨h1, h2⟩ := foldl_putW sto_bLt (gramsL s q) [] List.Pairwise.nil
  rw [List.append_nil] at h2
  exact sortedW_one sto_bLt (h2.trans (List.mergeSort_perm _ _).symm) h1 (gramS_sorted s q)
/-! ### what two lists have in common -/
/-- the reference's count: behind pre comes the list -/
def cgS (b : List (List UInt8)) : List (List UInt8) → List (List UInt8) → Nat
  | _, [] => 0
  | pre, x :: xs => (bif decide (pre.count x < b.count x) then 1 else 0) + cgS b (pre ++ [x]) xs
def cgE : List (List UInt8) → List (List UInt8) → Nat
  | [], _ => 0
  | x :: xs, b => bif decide (0 < b.count x) then cgE xs (b.erase x) + 1 else cgE xs b
theorem cgS_cgE (b : List (List UInt8)) : ∀ (xs pre b' : List (List UInt8)), (∀ y, b'.count y = b.count y - pre.count y) → cgS b pre xs = cgE xs b'
  | [], pre, b', h => rfl
  | x :: xs, pre, b', h => by
    unfold cgS cgE
    have hx := h x
    rw [show decide (pre.count x < b.count x) = decide (0 < b'.count x) from decide_eq_decide.2 (by omega)]
    have hc : ∀ y, (pre ++ [x]).count y = pre.count y + bif x == y then 1 else 0 := fun y => by
      rw [List.count_append, List.count_singleton]
      cases x == y <;> rfl
    cases hd : decide (0 < b'.count x)
    · rw [cond_false, cond_false, Nat.zero_add]
      refine cgS_cgE b xs _ _ fun y => ?_
      rw [hc]
      rw [decide_eq_false_iff_not] at hd
      have hy := h y
      cases he : x == y
      · exact hy
      · have : x = y := by simpa using he
        subst this
        rw [cond_true]
        omega
    · rw [cond_true, cond_true, Nat.add_comm]
      congr 1
      refine cgS_cgE b xs _ _ fun y => ?_
      rw [hc, List.count_erase]
      have hy := h y
      cases he : x == y
      · rw [if_neg (by simp), cond_false]; omega
      · rw [if_pos rfl, cond_true]; omega
theorem cgE_skip (y : List UInt8) : ∀ (xs b : List (List UInt8)), y ∉ xs → cgE xs (y :: b) = cgE xs b
  | [], b, h => rfl
  | x :: xs, b, h => by
    have hne : (y == x) = false := beq_eq_false_iff_ne.2 fun e => h (e ▸ List.mem_cons_self)
    have hm : y ∉ xs := fun hm => h (List.mem_cons_of_mem _ hm)
    unfold cgE
    rw [List.count_cons, hne, if_neg (by simp), Nat.add_zero, List.erase_cons, hne, if_neg (by simp), cgE_skip y xs _ hm, cgE_skip y xs _ hm]
theorem mrgN_cgE : ∀ (n : Nat) (xs ys : List (List UInt8)), xs.length + ys.length ≤ n → SortedW bLt xs → SortedW bLt ys → mrgN n xs ys = cgE xs ys
  | 0, xs, ys, hn, _, _ => by
    obtain rfl : xs = [] := List.eq_nil_of_length_eq_zero (by omega)
    rfl
  | n + 1, [], ys, hn, _, _ => rfl
  | n + 1, x :: xs, [], hn, hx, _ => by
    have e : ∀ l : List (List UInt8), cgE l [] = 0 := by
      intro l
      induction l with
      | nil => rfl
      | cons z l ih => unfold cgE; rw [List.count_nil, decide_eq_false (Nat.lt_irrefl 0), cond_false, ih]
    rw [e]; rfl
  | n + 1, x :: xs, y :: ys, hn, hx, hy => by
    simp only [List.length_cons] at hn
    obtain ⟨x1, x2⟩ := List.pairwise_cons.1 hx
    obtain ⟨y1, y2⟩ := List.pairwise_cons.1 hy
    unfold mrgN
    cases h1 : bLt x y
    · cases h2 : bLt y x
      · have e := bLt_tri h1 h2
        subst e
        rw [cond_false, cond_false, mrgN_cgE n xs ys (by omega) x2 y2]
        conv => rhs; unfold cgE
        rw [List.count_cons_self, decide_eq_true (Nat.succ_pos _), cond_true, List.erase_cons_head]
      · rw [cond_false, cond_true, mrgN_cgE n (x :: xs) ys (by simp; omega) hx y2, cgE_skip]
        intro hm
        rcases List.mem_cons.1 hm with rfl | hm
        · rw [bLt_irrefl] at h2; cases h2
        · have := x1 y hm
          rw [h2] at this; cases this
    · rw [cond_true, mrgN_cgE n xs (y :: ys) (by simp; omega) x2 hy]
      conv => rhs; unfold cgE
      rw [show (y :: ys).count x = 0 from List.count_eq_zero.2 fun hm => by
        rcases List.mem_cons.1 hm with rfl | hm
        · rw [bLt_irrefl] at h1; cases h1
        · have := y1 x hm
          rw [h1] at this; cases this]
      rfl
theorem implCG_t {fu : Nat} {a b : List (List UInt8)} (hf : 1048577 ≤ fu) (ha : a.length ≤ 100) (hb : b.length ≤ 100) (sa : SortedW bLt a) (sb : SortedW bLt b) : M_impl_CommonGrams fu a b = some (cgE a b : Int) := by
  unfold M_impl_CommonGrams
  have id : ∀ {l : List (List UInt8)}, SortedW bLt l → (l.mergeSort fun x y => !(bLt y x)) = l := fun {l} h => sortedW_one sto_bLt (List.mergeSort_perm l _) (sort_sorted sto_bLt l) h
  rw [clone_t (by omega), cl_true, clone_t (by omega), cl_true, sortS_t (by omega), cl_true, sortS_t (by omega), cl_true, id sa, id sb, mrg_t (a.length + b.length) fu a b 0 (Nat.le_refl _) (by omega) (by omega) (by omega), cl_true, mrgN_cgE _ a b (Nat.le_refl _) sa sb, Int.zero_add]
theorem cnt_t {fu : Nat} {l : List (List UInt8)} {x : List UInt8} (hf : 1048577 ≤ fu) (hl : l.length ≤ 1048576) : M_spec_l3Count fu l x = some (l.count x : Int) := by
  unfold M_spec_l3Count
  have key : ∀ m i k (c : Nat), i + m = l.length → m < k → c ≤ i → M_spec_l3Count_L0 fu l x k (c : Int) (i : Int) = some ((c + (l.drop i).count x : Nat) : Int) := by
    intro m
    induction m with
    | zero =>
      intro i k c hi hk hc
      obtain ⟨k, rfl⟩ : ∃ q, k = q + 1 := ⟨k - 1, by omega⟩
      obtain rfl : i = l.length := by omega
      rw [M_spec_l3Count_L0, lt_f, cond_false, List.drop_length, List.count_nil, Nat.add_zero]
    | succ m ih =>
      intro i k c hi hk hc
      obtain ⟨k, rfl⟩ : ∃ q, k = q + 1 := ⟨k - 1, by omega⟩
      have hlt : i < l.length := by omega
      have hg := List.getElem?_eq_getElem hlt
      rw [M_spec_l3Count_L0, lt_t hlt, cond_true, ck_t (inR_t hlt), gtD_get hg, succ_i, succ_i, ck_t (i64B_c (show c ≤ 4294967296 by omega)), ck_t (i64B_c (show i ≤ 4294967296 by omega)), ck_t (i64B_c (show i ≤ 4294967296 by omega)), ih (i + 1) k (c + 1) (by omega) (by omega) (by omega), ih (i + 1) k c (by omega) (by omega) (by omega), drop_cons hg, List.count_cons]
      cases h : l[i] == x
      · rw [cond_false, if_neg (by simp)]; rfl
      · rw [cond_true, if_pos rfl]
        congr 2
        omega
  have := key l.length 0 fu 0 (by omega) (by omega) (Nat.le_refl _)
  rw [show ((0 : Nat) : Int) = 0 from rfl, List.drop_zero, Nat.zero_add] at this
  rw [this, cl_true]
theorem specCG_t {fu : Nat} {a b : List (List UInt8)} (hf : 1048577 ≤ fu) (ha : a.length ≤ 100) (hb : b.length ≤ 100) : M_spec_CommonGrams fu a b = some (cgE a b : Int) := by
  unfold M_spec_CommonGrams
  have key : ∀ m i k (c : Nat), i + m = a.length → m < k → c ≤ i → M_spec_CommonGrams_L0 fu a b k (c : Int) (i : Int) = some ((c + cgS b (a.take i) (a.drop i) : Nat) : Int) := by
    intro m
    induction m with
    | zero =>
      intro i k c hi hk hc
      obtain ⟨k, rfl⟩ : ∃ q, k = q + 1 := ⟨k - 1, by omega⟩
      obtain rfl : i = a.length := by omega
      rw [M_spec_CommonGrams_L0, lt_f, cond_false, List.drop_length]
      rfl
    | succ m ih =>
      intro i k c hi hk hc
      obtain ⟨k, rfl⟩ : ∃ q, k = q + 1 := ⟨k - 1, by omega⟩
      have hlt : i < a.length := by omega
      have hg := List.getElem?_eq_getElem hlt
      have ht : a.take (i + 1) = a.take i ++ [a[i]] := by rw [List.take_add_one, hg]; rfl
      rw [M_spec_CommonGrams_L0, lt_t hlt, cond_true, ck_t (subR_k (by omega)), ck_t (inR_t hlt), gtD_get hg, subL_take, cnt_t hf (by rw [List.length_take]; omega), cl_true, ck_t (inR_t hlt), cnt_t hf (by omega), cl_true, succ_i, succ_i, ck_t (i64B_c (show c ≤ 4294967296 by omega)), ck_t (i64B_c (show i ≤ 4294967296 by omega)), ck_t (i64B_c (show i ≤ 4294967296 by omega)),
        ih (i + 1) k (c + 1) (by omega) (by omega) (by omega), ih (i + 1) k c (by omega) (by omega) (by omega), drop_cons hg, ht]
      conv => rhs; unfold cgS
      rw [show decide (((a.take i).count a[i] : Int) < (b.count a[i] : Int)) = decide ((a.take i).count a[i] < b.count a[i]) from decide_eq_decide.2 (by omega)]
      cases decide ((a.take i).count a[i] < b.count a[i])
      · rw [cond_false, cond_false, Nat.zero_add]
      · rw [cond_true, cond_true, ← Nat.add_assoc]
  have := key a.length 0 fu 0 (by omega) (by omega) (Nat.le_refl _)
  rw [show ((0 : Nat) : Int) = 0 from rfl, List.drop_zero, List.take_zero, Nat.zero_add, cgS_cgE b a [] b (fun y => by rw [List.count_nil, Nat.sub_zero])] at this
  rw [this, cl_true]
/-! ### the filters -/
def goodB (x y q l : Int) : Bool := ((inI x 0 40 && inI y 0 40) && inI q 1 3) && inI l 0 40
def mcg (x y q l : Int) : Int := bif goodB x y q l then max 0 (max x y - q + 1 - q * l) else -1
theorem good_nums {x y q l : Int} (h : goodB x y q l = true) : (0 ≤ x ∧ x ≤ 40) ∧ (0 ≤ y ∧ y ≤ 40) ∧ (1 ≤ q ∧ q ≤ 3) ∧ (0 ≤ l ∧ l ≤ 40) ∧ 0 ≤ q * l ∧ q * l ≤ 120 := by
  unfold goodB inI at h
  simp only [Bool.and_eq_true, decide_eq_true_eq] at h
  have hq : q = 1 ∨ q = 2 ∨ q = 3 := by omega
  rcases hq with rfl | rfl | rfl <;> omega
theorem specGood_t {fu : Nat} {x y q l : Int} : M_spec_l10Good fu x y q l = some (goodB x y q l) := by
  unfold M_spec_l10Good goodB
  simp only [l1In_t, cl_true, cl_if, bd_eq]
  cases inI x 0 40 <;> cases inI y 0 40 <;> cases inI q 1 3 <;> cases inI l 0 40 <;> rfl
theorem specMin_t {fu : Nat} {x y q l : Int} : M_spec_MinCommonGrams fu x y q l = some (mcg x y q l) := by
  unfold M_spec_MinCommonGrams mcg
  rw [specGood_t, cl_true]
  cases h : goodB x y q l
  · rfl
  · have hn := good_nums h
    rw [Bool.not_true, cond_false, cond_true, ck_t (i64B_t (by omega) (by omega)), ck_t (i64B_t (by omega) (by omega)), ck_t (i64B_t (by omega) (by omega)), ck_t (i64B_t (by omega) (by omega))]
theorem implMin_t {fu : Nat} {x y q l : Int} : M_impl_MinCommonGrams fu x y q l = some (mcg x y q l) := by
  unfold M_impl_MinCommonGrams mcg
  have e : ∀ a b c, M_impl_within fu a b c = some (inI a b c) := fun a b c => rfl
  simp only [e, cl_true, cl_if, bd_eq]
  cases h : goodB x y q l
  · unfold goodB at h
    cases h1 : inI x 0 40 <;> cases h2 : inI y 0 40 <;> cases h3 : inI q 1 3 <;> cases h4 : inI l 0 40 <;> first | rfl | (rw [h1, h2, h3, h4] at h; cases h)
  · have hn := good_nums h
    unfold goodB at h
    simp only [Bool.and_eq_true] at h
    obtain ⟨⟨⟨h1, h2⟩, h3⟩, h4⟩ := h
    rw [h1, h2, h3, h4]
    simp only [Bool.not_true, Bool.or_false, beq_self_eq_true, Bool.and_self, cond_true, cond_false]
    rw [ck_t (i64B_t (by omega) (by omega)), ck_t (i64B_t (by omega) (by omega)), ck_t (i64B_t (by omega) (by omega)), ck_t (i64B_t (by omega) (by omega))]
def gramB (a b : List UInt8) (q l : Int) : Bool := goodB a.length b.length q l && decide (mcg a.length b.length q l ≤ (cgE (gramS a q.toNat) (gramS b q.toNat) : Int))
theorem specGram_t {fu : Nat} {a b : List UInt8} {q l : Int} (hf : 1048577 ≤ fu) : M_spec_GramFilter fu a b q l = some (gramB a b q l) := by
  unfold M_spec_GramFilter gramB
  rw [specGood_t, cl_true]
  cases h : goodB a.length b.length q l
  · rfl
  · have hn := good_nums h
    obtain ⟨n, rfl⟩ : ∃ n : Nat, q = (n : Int) := ⟨q.toNat, by omega⟩
    rw [Bool.not_true, cond_false, specQ_t (by omega) (by omega) (by omega) hf, cl_true, specQ_t (by omega) (by omega) (by omega) hf, cl_true, specCG_t hf (by rw [gramS_len]; omega) (by rw [gramS_len]; omega), cl_true, specMin_t, cl_true, Int.toNat_natCast, Bool.true_and]
theorem implGram_t {fu : Nat} {a b : List UInt8} {q l : Int} (hf : 1048577 ≤ fu) : M_impl_GramFilter fu a b q l = some (gramB a b q l) := by
  unfold M_impl_GramFilter gramB
  rw [implMin_t, cl_true]
  cases h : goodB a.length b.length q l
  · unfold mcg
    rw [h]
    rfl
  · have hn := good_nums h
    have h0 : decide (0 ≤ mcg a.length b.length q l) = true := decide_eq_true (by unfold mcg; rw [h, cond_true]; omega)
    obtain ⟨n, rfl⟩ : ∃ n : Nat, q = (n : Int) := ⟨q.toNat, by omega⟩
    rw [h0, show (true && (true == true)) = true from rfl, implQ_t (by omega) (by omega) (by omega) hf, cl_true, implQ_t (by omega) (by omega) (by omega) hf, cl_true, implCG_t hf (by rw [gramS_len]; omega) (by rw [gramS_len]; omega) (gramS_sorted _ _) (gramS_sorted _ _), cl_true, bd_eq, Int.toNat_natCast]
def lenB (a b : List UInt8) (l : Int) : Bool := decide (max (a.length : Int) (b.length : Int) - min (a.length : Int) (b.length : Int) ≤ l)
theorem specLen_t {fu : Nat} {a b : List UInt8} {l : Int} (ha : a.length ≤ 1048576) (hb : b.length ≤ 1048576) : M_spec_LengthFilter fu a b l = some (lenB a b l) := by
  unfold M_spec_LengthFilter
  rw [ck_t (i64B_t (by omega) (by omega))]
  rfl
theorem implLen_t {fu : Nat} {a b : List UInt8} {l : Int} (ha : a.length ≤ 1048576) (hb : b.length ≤ 1048576) : M_impl_LengthFilter fu a b l = some (lenB a b l) := by
  unfold M_impl_LengthFilter lenB
  rw [ck_t (i64B_t (by omega) (by omega)), ck_t (i64B_t (by omega) (by omega)), decide_eq_decide.2 (show (max ((a.length : Int) - b.length) ((b.length : Int) - a.length) ≤ l ↔ max (a.length : Int) b.length - min (a.length : Int) b.length ≤ l) by omega)]
def passB (a b : List UInt8) (l : Int) : Bool := (lenB a b l && gramB a b 2 l) && gramB a b 3 l
theorem specPass_t {fu : Nat} {a b : List UInt8} {l : Int} (hf : 1048577 ≤ fu) (ha : a.length ≤ 1048576) (hb : b.length ≤ 1048576) : M_spec_PassesFilters fu a b l = some (passB a b l) := by
  unfold M_spec_PassesFilters passB
  rw [specLen_t ha hb, cl_true, specGram_t hf, specGram_t hf]
  simp only [cl_if, bd_eq]
  cases lenB a b l <;> cases gramB a b 2 l <;> cases gramB a b 3 l <;> rfl
theorem implPass_t {fu : Nat} {a b : List UInt8} {l : Int} (hf : 1048577 ≤ fu) (ha : a.length ≤ 1048576) (hb : b.length ≤ 1048576) : M_impl_PassesFilters fu a b l = some (passB a b l) := by
  unfold M_impl_PassesFilters passB
  rw [implLen_t ha hb, cl_true, implGram_t hf, implGram_t hf]
  simp only [cl_if, bd_eq]
  cases lenB a b l <;> cases gramB a b 2 l <;> cases gramB a b 3 l <;> rfl
end Go.Proofs.Ytofiipblinonoaa
