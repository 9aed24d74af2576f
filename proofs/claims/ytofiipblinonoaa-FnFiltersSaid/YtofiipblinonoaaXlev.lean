/- Plain: tables of edit distances (no exchanges), program and reference alike. No statement of the seat is proved here. -/
import Derived.Test.YtofiipblinonoaaXz
import Derived.Test.YtofiipblinonoaaPd
namespace Go.Proofs.Ytofiipblinonoaa
open Go.RowKit
set_option linter.unusedVariables false
set_option linter.unusedSimpArgs false

/-- the distance of the first i bytes of a and the first j of b -/
def lv (a b : List UInt8) : Nat → Nat → Int
  | 0, j => (j : Int)
  | i + 1, 0 => ((i + 1 : Nat) : Int)
  | i + 1, j + 1 => min (min (lv a b i (j + 1) + 1) (lv a b (i + 1) j + 1)) (lv a b i j + bif bAt a (i : Int) == bAt b (j : Int) then 0 else 1)
  termination_by i j => (i, j)
theorem lv_0 (a b : List UInt8) (j : Nat) : lv a b 0 j = (j : Int) := by rw [lv]
theorem lv_s0 (a b : List UInt8) (i : Nat) : lv a b (i + 1) 0 = ((i + 1 : Nat) : Int) := by rw [lv]
theorem lv_i0 (a b : List UInt8) (i : Nat) : lv a b i 0 = (i : Int) := by
  cases i
  · exact lv_0 a b 0
  · exact lv_s0 a b _
theorem lv_ss (a b : List UInt8) (i j : Nat) : lv a b (i + 1) (j + 1) = min (min (lv a b i (j + 1) + 1) (lv a b (i + 1) j + 1)) (lv a b i j + bif bAt a (i : Int) == bAt b (j : Int) then 0 else 1) := by rw [lv]
theorem lv_c (a b : List UInt8) (i j : Nat) : lv a b (i + 1) (j + 1) = (min (min (lv a b i (j + 1) + 1) (lv a b (i + 1) j + 1)) (lv a b i j + 1)) ∨ lv a b (i + 1) (j + 1) = min (min (lv a b i (j + 1) + 1) (lv a b (i + 1) j + 1)) (lv a b i j) := by
  rw [lv_ss]
  cases bAt a (i : Int) == bAt b (j : Int)
  · exact .inl rfl
  · rw [cond_true, Int.add_zero]; exact .inr rfl
theorem lv_r (a b : List UInt8) (i j : Nat) : lv a b i (j + 1) ≤ lv a b i j + 1 := by
  cases i
  · rw [lv_0, lv_0]; omega
  · have := lv_c a b ‹_› j; omega
theorem lv_d (a b : List UInt8) (i j : Nat) : lv a b (i + 1) j ≤ lv a b i j + 1 := by
  cases j
  · rw [lv_s0, lv_i0]; omega
  · have := lv_c a b i ‹_›; omega
theorem lv_u (a b : List UInt8) (i : Nat) : ∀ j, lv a b i j ≤ lv a b (i + 1) j + 1
  | 0 => by rw [lv_s0, lv_i0]; omega
  | j + 1 => by
    have h := lv_c a b i j
    have h1 := lv_r a b i j
    have h2 := lv_u a b i j
    omega
theorem lv_l (a b : List UInt8) (j : Nat) : ∀ i, lv a b i j ≤ lv a b i (j + 1) + 1
  | 0 => by rw [lv_0, lv_0]; omega
  | i + 1 => by
    have h := lv_c a b i j
    have h1 := lv_d a b i j
    have h2 := lv_l a b j i
    omega
theorem lv_pos (a b : List UInt8) : ∀ (n i j : Nat), i + j ≤ n → 0 ≤ lv a b i j ∧ lv a b i j ≤ (i : Int) + j
  | n, 0, j, _ => by rw [lv_0]; omega
  | n, i + 1, 0, _ => by rw [lv_s0]; omega
  | 0, i + 1, j + 1, h => by omega
  | n + 1, i + 1, j + 1, h => by
    have h0 := lv_c a b i j
    have h1 := lv_pos a b n i (j + 1) (by omega)
    have h2 := lv_pos a b n (i + 1) j (by omega)
    have h3 := lv_pos a b n i j (by omega)
    omega
/-- the reference's way: equal bytes take the diagonal -/
theorem lv_eq (a b : List UInt8) (i j : Nat) (h : (bAt a (i : Int) == bAt b (j : Int)) = true) : lv a b (i + 1) (j + 1) = lv a b i j := by
  rw [lv_ss, h, cond_true]
  have h1 := lv_u a b i j
  have h2 := lv_l a b j i
  omega
theorem lv_ne (a b : List UInt8) (i j : Nat) (h : (bAt a (i : Int) == bAt b (j : Int)) = false) : lv a b (i + 1) (j + 1) = 1 + min (min (lv a b i (j + 1)) (lv a b (i + 1) j)) (lv a b i j) := by
  rw [lv_ss, h, cond_false]
  omega
def lvRow (a b : List UInt8) (i : Nat) : List Int := (List.range (b.length + 1)).map (lv a b i)
def lvTab (a b : List UInt8) : List (List Int) := (List.range (a.length + 1)).map (lvRow a b)
theorem lvRow_len (a b : List UInt8) (i : Nat) : (lvRow a b i).length = b.length + 1 := by simp [lvRow]
theorem lvTab_len (a b : List UInt8) : (lvTab a b).length = a.length + 1 := by simp [lvTab]
theorem lvRow_at {a b : List UInt8} {i j : Nat} (h : j ≤ b.length) : (lvRow a b i)[j]? = some (lv a b i j) := by
  simp only [lvRow, List.getElem?_map, List.getElem?_range (show j < b.length + 1 by omega)]
  rfl
theorem lvTab_at {a b : List UInt8} {i : Nat} (h : i ≤ a.length) : (lvTab a b)[i]? = some (lvRow a b i) := by
  simp only [lvTab, List.getElem?_map, List.getElem?_range (show i < a.length + 1 by omega)]
  rfl
theorem loop_row {α β : Type} {xs : List α} {r : Option β} {L : Nat → Int → List α → Option β}
    (hs : ∀ k (i : Nat) ys x, xs[i]? = some x → ys.length = xs.length → ys.take i = xs.take i → L (k + 1) ((i : Nat) : Int) ys = L k ((i + 1 : Nat) : Int) (ys.set i x)) (he : ∀ k, L (k + 1) ((xs.length : Nat) : Int) xs = r) {ys : List α} {fu : Nat} (hf : xs.length < fu) (hy : ys.length = xs.length) : L fu 0 ys = r := by
  have key : ∀ m i k ys, i + m = xs.length → m < k → ys.length = xs.length → ys.take i = xs.take i → L k ((i : Nat) : Int) ys = r := by
    intro m
    induction m with
    | zero =>
      intro i k ys hi hk hy ht
      obtain ⟨k, rfl⟩ : ∃ q, k = q + 1 := ⟨k - 1, by omega⟩
      obtain rfl : i = xs.length := by omega
      rw [List.take_of_length_le (by omega), List.take_of_length_le (by omega)] at ht
      rw [ht, he]
    | succ m ih =>
      intro i k ys hi hk hy ht
      obtain ⟨k, rfl⟩ : ∃ q, k = q + 1 := ⟨k - 1, by omega⟩
      have hlt : i < xs.length := by omega
      rw [hs k i ys _ (List.getElem?_eq_getElem hlt) hy ht]
      refine ih (i + 1) k _ (by omega) (by omega) (by rw [List.length_set, hy]) ?_
      apply List.ext_getElem?
      intro j
      rw [List.getElem?_take, List.getElem?_take]
      split
      · rename_i hj
        rcases Nat.lt_or_ge j i with h | h
        · have := congrArg (fun l => l[j]?) ht
          simp only [List.getElem?_take, if_pos h] at this
          rw [List.getElem?_set_ne (by omega)]
          exact this
        · obtain rfl : j = i := by omega
          rw [List.getElem?_set_self (by omega), List.getElem?_eq_getElem hlt]
      · rfl
  exact key xs.length 0 fu ys (by omega) hf hy rfl
theorem take_at {α : Type} {xs ys : List α} {i j : Nat} (h : ys.take i = xs.take i) (hj : j < i) : ys[j]? = xs[j]? := by
  have := congrArg (fun l => l[j]?) h
  simpa only [List.getElem?_take, if_pos hj] using this
theorem is0_s (i : Nat) : (((i + 1 : Nat) : Int) == (0 : Int)) = false := by
  rw [beq_eq_false_iff_ne]; omega
theorem is0_0 : (((0 : Nat) : Int) == (0 : Int)) = true := rfl
theorem toN_s (n : Nat) : ((n : Int) + 1).toNat = n + 1 := by omega
theorem implRow_t {fu : Nat} {a b : List UInt8} {i : Nat} {T : List (List Int)} (hT : T.length = a.length + 1) (hi : i ≤ a.length) (hp : T.take i = (lvTab a b).take i) (ha : a.length ≤ 40) (hb : b.length ≤ 40) (hf : 1048577 ≤ fu) {ys : List Int} (hy : ys.length = b.length + 1) :
    M_impl_distances_L1 fu a b false (i : Int) T fu 0 (T.set i ys) = some (T.set i (lvRow a b i)) := by
  have hiT : i < T.length := by omega
  have hl : ∀ zs : List Int, inR (i : Int) (T.set i zs).length = true := fun zs => inR_t (by rw [List.length_set]; omega)
  have hg : ∀ zs : List Int, gtD (T.set i zs) (i : Int) = zs := fun zs => gtD_get (List.getElem?_set_self hiT)
  refine loop_row (xs := lvRow a b i) (L := fun k j ys => M_impl_distances_L1 fu a b false (i : Int) T k j (T.set i ys)) (fun k j zs x hx hz ht => ?_) (fun k => ?_) (by rw [lvRow_len]; omega) (by rw [lvRow_len, hy])
  · have hj : j < b.length + 1 := by have := at_lt hx; rwa [lvRow_len] at this
    rw [lvRow_len] at hz
    have hjz : j < zs.length := by omega
    rw [lvRow_at (by omega)] at hx
    injection hx with hx
    subst hx
    show M_impl_distances_L1 fu a b false (i : Int) T (k + 1) (j : Int) (T.set i zs) = M_impl_distances_L1 fu a b false (i : Int) T k ((j + 1 : Nat) : Int) (T.set i (zs.set j _))
    rw [M_impl_distances_L1, Int.toNat_natCast, hg, List.length_replicate, toN_s, lt_t hj, cond_true]
    simp only [hl, hg, inR_t hjz, ck_tt, set_nat, List.set_set, i64B_c (show j ≤ 4294967296 by omega), succ_i]
    cases i with
    | zero =>
      rw [is0_0, cond_true, lv_0]
    | succ i =>
      rw [is0_s, cond_false]
      cases j with
      | zero => rw [is0_0, cond_true, lv_s0]
      | succ j =>
        have e1 : gtD (T.set (i + 1) zs) (i : Int) = lvRow a b i := gtD_get (by rw [List.getElem?_set_ne (by omega), take_at hp (Nat.lt_succ_self i), lvTab_at (by omega)])
        have e2 : gtD zs (j : Int) = lv a b (i + 1) j := gtD_get (by rw [take_at ht (Nat.lt_succ_self j), lvRow_at (by omega)])
        have e3 : gtD (lvRow a b i) ((j + 1 : Nat) : Int) = lv a b i (j + 1) := gtD_get (lvRow_at (by omega))
        have e4 : gtD (lvRow a b i) (j : Int) = lv a b i j := gtD_get (lvRow_at (by omega))
        have p1 := lv_pos a b _ i (j + 1) (Nat.le_refl _)
        have p2 := lv_pos a b _ (i + 1) j (Nat.le_refl _)
        have p3 := lv_pos a b _ i j (Nat.le_refl _)
        rw [is0_s, cond_false]
        simp only [pred_i, i64B_i i (by omega), i64B_i j (by omega), inR_t (show i < a.length by omega), inR_t (show j < b.length by omega), inR_t (show i < (T.set (i + 1) zs).length by rw [List.length_set]; omega), e1, e2, e3, e4,
          inR_t (show j + 1 < (lvRow a b i).length by rw [lvRow_len]; omega), inR_t (show j < (lvRow a b i).length by rw [lvRow_len]; omega), inR_t (show j < zs.length by omega), ck_tt, Bool.false_and, bd_eq, cond_false,
          show (true && (false == true)) = false from rfl, Bool.not_false, Bool.true_or,
          i64B_t (show -9223372036854775808 ≤ lv a b i (j + 1) + 1 by omega) (by omega), i64B_t (show -9223372036854775808 ≤ lv a b (i + 1) j + 1 by omega) (by omega), i64B_t (show -9223372036854775808 ≤ lv a b i j + 1 by omega) (by omega), i64B_t (show -9223372036854775808 ≤ lv a b i j + 0 by omega) (by omega)]
        rw [lv_ss]
        cases bAt a (i : Int) == bAt b (j : Int) <;> rfl
  · show M_impl_distances_L1 fu a b false (i : Int) T (k + 1) _ (T.set i (lvRow a b i)) = _
    rw [M_impl_distances_L1, Int.toNat_natCast, hg, List.length_replicate, toN_s, lvRow_len, lt_f]
    rfl
theorem implTab_lv {fu : Nat} {a b : List UInt8} (hf : 1048577 ≤ fu) (ha : a.length ≤ 40) (hb : b.length ≤ 40) : M_impl_distances fu a b false = some (lvTab a b) := by
  unfold M_impl_distances
  rw [ck_t (i64B_t (by omega) (by omega)), ck_t (show mkOK ((a.length : Int) + 1) = true from mkOK_t (n := a.length + 1) (by omega)), toN_s]
  have h := loop_row (xs := lvTab a b) (r := some (lvTab a b)) (L := M_impl_distances_L0 fu a b false) (fun k i T x hx hT hp => by
    have hi := at_lt hx
    rw [lvTab_len] at hi hT
    rw [lvTab_at (by omega)] at hx
    injection hx with hx
    subst hx
    rw [M_impl_distances_L0, List.length_replicate, toN_s, lt_t hi, cond_true, ck_t (i64B_t (by omega) (by omega)), ck_t (show mkOK ((b.length : Int) + 1) = true from mkOK_t (n := b.length + 1) (by omega)), toN_s, set_nat, ck_t (inR_t (by omega)), ck_t (inR_t (by rw [List.length_set]; omega)),
      implRow_t hT (by omega) hp ha hb hf (by rw [List.length_replicate]), cl_true, ck_t (i64B_n (by omega)), succ_i]) (fun k => by
    rw [M_impl_distances_L0, List.length_replicate, toN_s, lvTab_len, lt_f]
    rfl) (ys := List.replicate (a.length + 1) []) (show (lvTab a b).length < fu by rw [lvTab_len]; omega) (by rw [lvTab_len, List.length_replicate])
  rw [h, cl_true]
theorem specRow_t {fu : Nat} {a b : List UInt8} {i : Nat} (hi : i ≤ a.length) (ha : a.length ≤ 40) (hb : b.length ≤ 40) (hf : 1048577 ≤ fu) {ys : List Int} (hy : ys.length = b.length + 1) :
    M_spec_l4Table_L1 fu a b false (i : Int) ((lvTab a b).take i) fu 0 ys = some (lvRow a b i) := by
  refine loop_row (xs := lvRow a b i) (L := fun k j ys => M_spec_l4Table_L1 fu a b false (i : Int) ((lvTab a b).take i) k j ys) (fun k j zs x hx hz ht => ?_) (fun k => ?_) (by rw [lvRow_len]; omega) (by rw [lvRow_len, hy])
  · have hj : j < b.length + 1 := by have := at_lt hx; rwa [lvRow_len] at this
    rw [lvRow_len] at hz
    have hjz : j < zs.length := by omega
    rw [lvRow_at (by omega)] at hx
    injection hx with hx
    subst hx
    show M_spec_l4Table_L1 fu a b false (i : Int) ((lvTab a b).take i) (k + 1) (j : Int) zs = M_spec_l4Table_L1 fu a b false (i : Int) ((lvTab a b).take i) k ((j + 1 : Nat) : Int) (zs.set j _)
    rw [M_spec_l4Table_L1, show decide ((j : Int) ≤ (b.length : Int)) = true from decide_eq_true (by omega), cond_true]
    simp only [Bool.false_and, bd_eq, cond_false, show (true && (false == true)) = false from rfl, Bool.not_false, Bool.true_or, inR_t hjz, ck_tt, set_nat, i64B_c (show j ≤ 4294967296 by omega), succ_i]
    cases i with
    | zero => rw [is0_0, cond_true, lv_0]
    | succ i =>
      rw [is0_s, cond_false]
      cases j with
      | zero => rw [is0_0, cond_true, lv_s0]
      | succ j =>
        have e1 : gtD ((lvTab a b).take (i + 1)) (i : Int) = lvRow a b i := gtD_get (by rw [List.getElem?_take, if_pos (Nat.lt_succ_self i), lvTab_at (by omega)])
        have e2 : gtD zs (j : Int) = lv a b (i + 1) j := gtD_get (by rw [take_at ht (Nat.lt_succ_self j), lvRow_at (by omega)])
        have e3 : gtD (lvRow a b i) ((j + 1 : Nat) : Int) = lv a b i (j + 1) := gtD_get (lvRow_at (by omega))
        have e4 : gtD (lvRow a b i) (j : Int) = lv a b i j := gtD_get (lvRow_at (by omega))
        have p1 := lv_pos a b _ i (j + 1) (Nat.le_refl _)
        have p2 := lv_pos a b _ (i + 1) j (Nat.le_refl _)
        have p3 := lv_pos a b _ i j (Nat.le_refl _)
        have hl : ((lvTab a b).take (i + 1)).length = i + 1 := by rw [List.length_take, lvTab_len]; omega
        rw [is0_s, cond_false]
        simp only [pred_i, i64B_i i (by omega), i64B_i j (by omega), inR_t (show i < a.length by omega), inR_t (show j < b.length by omega), inR_t (show i < ((lvTab a b).take (i + 1)).length by rw [hl]; omega), e1, e2, e3, e4,
          inR_t (show j + 1 < (lvRow a b i).length by rw [lvRow_len]; omega), inR_t (show j < (lvRow a b i).length by rw [lvRow_len]; omega), inR_t (show j < zs.length by omega), ck_tt]
        cases hc : bAt a (i : Int) == bAt b (j : Int)
        · rw [cond_false, ck_t (i64B_t (by omega) (by omega)), lv_ne _ _ _ _ hc]
        · rw [cond_true, lv_eq _ _ _ _ hc]
  · show M_spec_l4Table_L1 fu a b false (i : Int) ((lvTab a b).take i) (k + 1) _ (lvRow a b i) = _
    rw [M_spec_l4Table_L1, lvRow_len, show decide (((b.length + 1 : Nat) : Int) ≤ (b.length : Int)) = false from decide_eq_false (by omega)]
    rfl
theorem specTab_lv {fu : Nat} {a b : List UInt8} (hf : 1048577 ≤ fu) (ha : a.length ≤ 40) (hb : b.length ≤ 40) : M_spec_l4Table fu a b false = some (lvTab a b) := by
  unfold M_spec_l4Table
  have key : ∀ m i k, i + m = a.length + 1 → m < k → M_spec_l4Table_L0 fu a b false k ((i : Nat) : Int) ((lvTab a b).take i) = some (lvTab a b) := by
    intro m
    induction m with
    | zero =>
      intro i k hi hk
      obtain ⟨k, rfl⟩ : ∃ q, k = q + 1 := ⟨k - 1, by omega⟩
      rw [M_spec_l4Table_L0, show decide ((i : Int) ≤ (a.length : Int)) = false from decide_eq_false (by omega), cond_false, List.take_of_length_le (by rw [lvTab_len]; omega)]
    | succ m ih =>
      intro i k hi hk
      obtain ⟨k, rfl⟩ : ∃ q, k = q + 1 := ⟨k - 1, by omega⟩
      have hl : ((lvTab a b).take i).length = i := by rw [List.length_take, lvTab_len]; omega
      rw [M_spec_l4Table_L0, show decide ((i : Int) ≤ (a.length : Int)) = true from decide_eq_true (by omega), cond_true, ck_t (i64B_t (by omega) (by omega)), ck_t (show mkOK ((b.length : Int) + 1) = true from mkOK_t (n := b.length + 1) (by omega)), toN_s,
        specRow_t (by omega) ha hb hf (by rw [List.length_replicate]), cl_true, hl, List.length_singleton, ck_t (lenOK_t (by omega)), ck_t (i64B_n (by omega)), succ_i]
      have : (lvTab a b).take i ++ [lvRow a b i] = (lvTab a b).take (i + 1) := by
        rw [List.take_add_one, lvTab_at (by omega)]
        rfl
      rw [this]
      exact ih (i + 1) k (by omega) (by omega)
  have := key (a.length + 1) 0 fu (by omega) (by omega)
  rw [show ((0 : Nat) : Int) = 0 from rfl, List.take_zero] at this
  rw [this, cl_true]
/-- the edit distance, -1 where a string is too long -/
def editD (a b : List UInt8) : Int := bif decide (a.length ≤ 40) && decide (b.length ≤ 40) then lv a b a.length b.length else -1
theorem implDist_t {fu : Nat} {a b : List UInt8} (hf : 1048577 ≤ fu) : M_impl_EditDistance fu a b = some (editD a b) := by
  unfold M_impl_EditDistance M_impl_distance editD
  rw [bd_eq]
  by_cases h : a.length ≤ 40 ∧ b.length ≤ 40
  · rw [show decide ((40 : Int) < (a.length : Int)) = false from decide_eq_false (by omega), show decide ((40 : Int) < (b.length : Int)) = false from decide_eq_false (by omega), decide_eq_true h.1, decide_eq_true h.2, Bool.or_false, cond_false, implTab_lv hf h.1 h.2, cl_true,
      ck_t (inR_t (by rw [lvTab_len]; omega)), gtD_get (lvTab_at (Nat.le_refl _)), ck_t (inR_t (by rw [lvRow_len]; omega)), cl_true, gtD_get (lvRow_at (Nat.le_refl _))]
    rfl
  · have : (decide ((40 : Int) < (a.length : Int)) || decide ((40 : Int) < (b.length : Int))) = true := by
      rw [Bool.or_eq_true, decide_eq_true_eq, decide_eq_true_eq]; omega
    have h2 : (decide (a.length ≤ 40) && decide (b.length ≤ 40)) = false := by
      rw [Bool.and_eq_false_iff, decide_eq_false_iff_not, decide_eq_false_iff_not]; omega
    rw [this, h2]
    rfl
theorem specDist_t {fu : Nat} {a b : List UInt8} (hf : 1048577 ≤ fu) : M_spec_EditDistance fu a b = some (editD a b) := by
  unfold M_spec_EditDistance M_spec_l4Fits editD
  rw [bd_eq, cl_true]
  by_cases h : a.length ≤ 40 ∧ b.length ≤ 40
  · rw [show decide ((a.length : Int) ≤ 40) = true from decide_eq_true (by omega), show decide ((b.length : Int) ≤ 40) = true from decide_eq_true (by omega), decide_eq_true h.1, decide_eq_true h.2, Bool.and_self, Bool.not_true, cond_false, specTab_lv hf h.1 h.2, cl_true,
      ck_t (inR_t (by rw [lvTab_len]; omega)), gtD_get (lvTab_at (Nat.le_refl _)), ck_t (inR_t (by rw [lvRow_len]; omega)), gtD_get (lvRow_at (Nat.le_refl _))]
    rfl
  · have : (decide ((a.length : Int) ≤ 40) && decide ((b.length : Int) ≤ 40)) = false := by
      rw [Bool.and_eq_false_iff, decide_eq_false_iff_not, decide_eq_false_iff_not]; omega
    have h2 : (decide (a.length ≤ 40) && decide (b.length ≤ 40)) = false := by
      rw [Bool.and_eq_false_iff, decide_eq_false_iff_not, decide_eq_false_iff_not]; omega
    rw [this, h2]
    rfl
theorem editD_ge (a b : List UInt8) : -1 ≤ editD a b := by
  unfold editD
  cases decide (a.length ≤ 40) && decide (b.length ≤ 40)
  · exact Int.le_refl _
  · have := (lv_pos a b _ a.length b.length (Nat.le_refl _)).1
    rw [cond_true]; omega
end Go.Proofs.Ytofiipblinonoaa
