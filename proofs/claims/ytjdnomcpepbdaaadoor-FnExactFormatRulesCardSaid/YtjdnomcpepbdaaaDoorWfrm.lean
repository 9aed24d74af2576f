/- Plain: what the law FormatRules asks. No statement of the seat is proved here. -/
import Derived.Test.YtjdnomcpepbdaaaDoorWfi
import Derived.Test.YtjdnomcpepbdaaaDoorWrs
import Derived.Test.YtjdnomcpepbdaaaDoorWh
namespace Go.Proofs.YtjdnomcpepbdaaaDoor
open Go.RowKit
set_option linter.unusedVariables false
set_option linter.unusedSimpArgs false

theorem w_len {α : Type} {f : α → Nat} {xs : List α} (h : wL f xs ≤ 1048576) : xs.length ≤ 1048576 ∧ ∀ x ∈ xs, f x ≤ 1048576 := by
  unfold wL at h
  exact ⟨by omega, fun x hx => Nat.le_trans (sz_mem hx) (by omega)⟩
theorem rs_ok {r : List (List TTst)} (h : w_RuleSet r ≤ 1048576) : RsOK r := by
  unfold w_RuleSet w_RuleS at h
  have k1 := w_len (f := w_Rule) h
  refine ⟨k1.1, fun l hl => ?_⟩
  have := k1.2 l hl
  unfold w_Rule w_TestS at this
  exact (w_len (f := w_Test) this).1
def testT (t : TTst) : List UInt8 := gtD featL t.1 ++ (bif t.2.2 then [60] else [62, 61]) ++ Lib.itoa t.2.1
theorem testT_len {t : TTst} (h : (0 ≤ t.1 ∧ t.1 ≤ 5) ∧ 1 ≤ t.2.1 ∧ t.2.1 ≤ 1000) : (testT t).length ≤ 30 := by
  have e2 := itoa_le (n := t.2.1) (by omega) (by omega)
  have e5 := feat_len t.1
  unfold testT
  cases t.2.2 <;> simp <;> omega
def ruleT (l : List TTst) : List UInt8 := jn [44] (l.map testT)
theorem ruleT_len {l : List TTst} (h3 : l.length ≤ 3) (hb : ∀ t ∈ l, (0 ≤ t.1 ∧ t.1 ≤ 5) ∧ 1 ≤ t.2.1 ∧ t.2.1 ≤ 1000) : (ruleT l).length ≤ 93 := by
  have := jn_len [44] 30 (l.map testT) (fun x hx => by
    obtain ⟨t, ht, rfl⟩ := List.mem_map.1 hx
    exact testT_len (hb t ht))
  rw [List.length_map] at this
  unfold ruleT
  simp at this
  omega
theorem implTT_t {fu : Nat} {t : TTst} (h : (0 ≤ t.1 ∧ t.1 ≤ 5) ∧ 1 ≤ t.2.1 ∧ t.2.1 ≤ 1000) : M_impl_testText fu t = some (testT t) := by
  unfold M_impl_testText testT
  have e2 := itoa_le (n := t.2.1) (by omega) (by omega)
  have e5 := feat_len t.1
  rw [ck_t (featIn h.1.1 h.1.2), ck_t (lenOK_s (by simp only [List.length_append, List.length_cons, List.length_nil]; omega)), implFI_t (by omega) (by omega), cl_true, ck_t (lenOK_s (by simp only [List.length_append, List.length_cons, List.length_nil]; omega)), ck_t (lenOK_s (by simp only [List.length_append, List.length_cons, List.length_nil]; omega)), cl_true, ck_t (featIn h.1.1 h.1.2), ck_t (lenOK_s (by simp only [List.length_append, List.length_cons, List.length_nil]; omega))]
  cases t.2.2 <;> rfl
theorem specIn1_t {fu : Nat} {r : List (List TTst)} {l : List TTst} {i : Nat} {acc : List UInt8} (hl : r[i]? = some l) (hf : 1048577 ≤ fu) (h3 : l.length ≤ 3) (hb : ∀ t ∈ l, (0 ≤ t.1 ∧ t.1 ≤ 5) ∧ 1 ≤ t.2.1 ∧ t.2.1 ≤ 1000) (ha : acc.length ≤ 1000) :
    M_spec_FormatRules_L1 fu r (i : Int) fu acc (0 : Int) = some (acc ++ jn [44] (l.map testT)) := by
  have hi := at_lt hl
  have hg := gtD_get hl
  have key : ∀ m j k (a : List UInt8), j + m = l.length → m < k → a = acc ++ jn [44] ((l.map testT).take j) → a.length ≤ 1000 + 40 * j → M_spec_FormatRules_L1 fu r (i : Int) k a (j : Int) = some (acc ++ jn [44] (l.map testT)) := by
    intro m
    induction m with
    | zero =>
      intro j k a hj hk he hal
      obtain ⟨k, rfl⟩ : ∃ q, k = q + 1 := ⟨k - 1, by omega⟩
      obtain rfl : j = l.length := by omega
      rw [M_spec_FormatRules_L1, ck_t (inR_t hi), hg, lt_f, cond_false, he, List.take_of_length_le (by simp)]
    | succ m ih =>
      intro j k a hj hk he hal
      obtain ⟨k, rfl⟩ : ∃ q, k = q + 1 := ⟨k - 1, by omega⟩
      have hlt : j < l.length := by omega
      have hgj : gtD l (j : Int) = l[j] := gtD_get (List.getElem?_eq_getElem hlt)
      have hq := hb l[j] (List.getElem_mem hlt)
      have e2 := itoa_le (n := l[j].2.1) (by omega) (by omega)
      have e5 := feat_len l[j].1
      have ht : (l.map testT).take (j + 1) = (l.map testT).take j ++ [testT l[j]] := by rw [List.take_add_one, List.getElem?_map, List.getElem?_eq_getElem hlt]; rfl
      rw [M_spec_FormatRules_L1, ck_t (inR_t hi), hg, lt_t hlt, cond_true, ck_t (inR_t hi), ck_t (inR_t hlt), hgj, specFI_t hf (by omega) (by omega), specName_t (by omega) (by omega)]
      rcases Nat.eq_zero_or_pos j with rfl | hp
      · have h0 : a = acc := by rw [he]; simp [jn]
        subst h0
        rw [show decide ((0 : Int) < ((0 : Nat) : Int)) = false from rfl, cond_false, cl_true, ck_t (lenOK_s (by simp only [List.length_append, List.length_cons, List.length_nil]; omega))]
        have nx : M_spec_FormatRules_L1 fu r (i : Int) k (a ++ testT l[0]) ((0 + 1 : Nat) : Int) = some (a ++ jn [44] (l.map testT)) := by
          refine ih 1 k _ (by omega) (by omega) ?_ (by unfold testT; cases l[0].2.2 <;> simp <;> omega)
          rw [ht, List.take_zero, List.nil_append, jn_one]
        rw [← nx]
        unfold testT
        cases l[0].2.2
        · rw [cond_false, ck_t (lenOK_s (by simp only [List.length_append, List.length_cons, List.length_nil]; omega)), cl_true, ck_t (lenOK_s (by simp only [List.length_append, List.length_cons, List.length_nil]; omega)), ck_t (i64B_n (by omega)), succ_i]
          simp only [List.append_assoc, cond_false]
        · rw [cond_true, ck_t (lenOK_s (by simp only [List.length_append, List.length_cons, List.length_nil]; omega)), cl_true, ck_t (lenOK_s (by simp only [List.length_append, List.length_cons, List.length_nil]; omega)), ck_t (i64B_n (by omega)), succ_i]
          simp only [List.append_assoc, cond_true]
      · rw [show decide ((0 : Int) < (j : Int)) = true from decide_eq_true (by omega), cond_true, ck_t (lenOK_s (by simp only [List.length_append, List.length_cons, List.length_nil]; omega)), cl_true, ck_t (lenOK_s (by simp only [List.length_append, List.length_cons, List.length_nil]; omega))]
        have nx : M_spec_FormatRules_L1 fu r (i : Int) k (a ++ [44] ++ testT l[j]) ((j + 1 : Nat) : Int) = some (acc ++ jn [44] (l.map testT)) := by
          refine ih (j + 1) k _ (by omega) (by omega) ?_ (by unfold testT; cases l[j].2.2 <;> simp <;> omega)
          rw [ht, jn_snoc _ _ _ (by
            intro hz
            have := congrArg List.length hz
            rw [List.length_take, List.length_map, List.length_nil] at this
            omega), he]
          simp only [List.append_assoc]
        rw [← nx]
        unfold testT
        cases l[j].2.2
        · rw [cond_false, ck_t (lenOK_s (by simp only [List.length_append, List.length_cons, List.length_nil]; omega)), cl_true, ck_t (lenOK_s (by simp only [List.length_append, List.length_cons, List.length_nil]; omega)), ck_t (i64B_n (by omega)), succ_i]
          simp only [List.append_assoc, cond_false]
        · rw [cond_true, ck_t (lenOK_s (by simp only [List.length_append, List.length_cons, List.length_nil]; omega)), cl_true, ck_t (lenOK_s (by simp only [List.length_append, List.length_cons, List.length_nil]; omega)), ck_t (i64B_n (by omega)), succ_i]
          simp only [List.append_assoc, cond_true]
  have := key l.length 0 fu acc (by omega) (by omega) (by simp [jn]) (by omega)
  rwa [show ((0 : Nat) : Int) = 0 from rfl] at this
theorem specIn2_t {fu : Nat} {r : List (List TTst)} {l : List TTst} {i : Nat} {acc : List UInt8} (hl : r[i]? = some l) (hf : 1048577 ≤ fu) (h3 : l.length ≤ 3) (hb : ∀ t ∈ l, (0 ≤ t.1 ∧ t.1 ≤ 5) ∧ 1 ≤ t.2.1 ∧ t.2.1 ≤ 1000) (ha : acc.length ≤ 1000) :
    M_spec_FormatRules_L2 fu r (i : Int) fu acc (0 : Int) = some (acc ++ jn [44] (l.map testT)) := by
  have hi := at_lt hl
  have hg := gtD_get hl
  have key : ∀ m j k (a : List UInt8), j + m = l.length → m < k → a = acc ++ jn [44] ((l.map testT).take j) → a.length ≤ 1000 + 40 * j → M_spec_FormatRules_L2 fu r (i : Int) k a (j : Int) = some (acc ++ jn [44] (l.map testT)) := by
    intro m
    induction m with
    | zero =>
      intro j k a hj hk he hal
      obtain ⟨k, rfl⟩ : ∃ q, k = q + 1 := ⟨k - 1, by omega⟩
      obtain rfl : j = l.length := by omega
      rw [M_spec_FormatRules_L2, ck_t (inR_t hi), hg, lt_f, cond_false, he, List.take_of_length_le (by simp)]
    | succ m ih =>
      intro j k a hj hk he hal
      obtain ⟨k, rfl⟩ : ∃ q, k = q + 1 := ⟨k - 1, by omega⟩
      have hlt : j < l.length := by omega
      have hgj : gtD l (j : Int) = l[j] := gtD_get (List.getElem?_eq_getElem hlt)
      have hq := hb l[j] (List.getElem_mem hlt)
      have e2 := itoa_le (n := l[j].2.1) (by omega) (by omega)
      have e5 := feat_len l[j].1
      have ht : (l.map testT).take (j + 1) = (l.map testT).take j ++ [testT l[j]] := by rw [List.take_add_one, List.getElem?_map, List.getElem?_eq_getElem hlt]; rfl
      rw [M_spec_FormatRules_L2, ck_t (inR_t hi), hg, lt_t hlt, cond_true, ck_t (inR_t hi), ck_t (inR_t hlt), hgj, specFI_t hf (by omega) (by omega), specName_t (by omega) (by omega)]
      rcases Nat.eq_zero_or_pos j with rfl | hp
      · have h0 : a = acc := by rw [he]; simp [jn]
        subst h0
        rw [show decide ((0 : Int) < ((0 : Nat) : Int)) = false from rfl, cond_false, cl_true, ck_t (lenOK_s (by simp only [List.length_append, List.length_cons, List.length_nil]; omega))]
        have nx : M_spec_FormatRules_L2 fu r (i : Int) k (a ++ testT l[0]) ((0 + 1 : Nat) : Int) = some (a ++ jn [44] (l.map testT)) := by
          refine ih 1 k _ (by omega) (by omega) ?_ (by unfold testT; cases l[0].2.2 <;> simp <;> omega)
          rw [ht, List.take_zero, List.nil_append, jn_one]
        rw [← nx]
        unfold testT
        cases l[0].2.2
        · rw [cond_false, ck_t (lenOK_s (by simp only [List.length_append, List.length_cons, List.length_nil]; omega)), cl_true, ck_t (lenOK_s (by simp only [List.length_append, List.length_cons, List.length_nil]; omega)), ck_t (i64B_n (by omega)), succ_i]
          simp only [List.append_assoc, cond_false]
        · rw [cond_true, ck_t (lenOK_s (by simp only [List.length_append, List.length_cons, List.length_nil]; omega)), cl_true, ck_t (lenOK_s (by simp only [List.length_append, List.length_cons, List.length_nil]; omega)), ck_t (i64B_n (by omega)), succ_i]
          simp only [List.append_assoc, cond_true]
      · rw [show decide ((0 : Int) < (j : Int)) = true from decide_eq_true (by omega), cond_true, ck_t (lenOK_s (by simp only [List.length_append, List.length_cons, List.length_nil]; omega)), cl_true, ck_t (lenOK_s (by simp only [List.length_append, List.length_cons, List.length_nil]; omega))]
        have nx : M_spec_FormatRules_L2 fu r (i : Int) k (a ++ [44] ++ testT l[j]) ((j + 1 : Nat) : Int) = some (acc ++ jn [44] (l.map testT)) := by
          refine ih (j + 1) k _ (by omega) (by omega) ?_ (by unfold testT; cases l[j].2.2 <;> simp <;> omega)
          rw [ht, jn_snoc _ _ _ (by
            intro hz
            have := congrArg List.length hz
            rw [List.length_take, List.length_map, List.length_nil] at this
            omega), he]
          simp only [List.append_assoc]
        rw [← nx]
        unfold testT
        cases l[j].2.2
        · rw [cond_false, ck_t (lenOK_s (by simp only [List.length_append, List.length_cons, List.length_nil]; omega)), cl_true, ck_t (lenOK_s (by simp only [List.length_append, List.length_cons, List.length_nil]; omega)), ck_t (i64B_n (by omega)), succ_i]
          simp only [List.append_assoc, cond_false]
        · rw [cond_true, ck_t (lenOK_s (by simp only [List.length_append, List.length_cons, List.length_nil]; omega)), cl_true, ck_t (lenOK_s (by simp only [List.length_append, List.length_cons, List.length_nil]; omega)), ck_t (i64B_n (by omega)), succ_i]
          simp only [List.append_assoc, cond_true]
  have := key l.length 0 fu acc (by omega) (by omega) (by simp [jn]) (by omega)
  rwa [show ((0 : Nat) : Int) = 0 from rfl] at this
theorem specFR_t {fu : Nat} {r : List (List TTst)} (hf : 1048577 ≤ fu) (hr : RsOK r) : M_spec_FormatRules fu r = some (bif rsB r then jn [32, 111, 114, 32] (r.map ruleT) else []) := by
  unfold M_spec_FormatRules
  rw [specRs_t hf hr, cl_true]
  cases hv : rsB r
  · rfl
  · obtain ⟨h3, hb⟩ := rsB_len hv
    have key : ∀ m i k (a : List UInt8), i + m = r.length → m < k → a = jn [32, 111, 114, 32] ((r.map ruleT).take i) → a.length ≤ 100 * i → M_spec_FormatRules_L0 fu r k a (i : Int) = some (jn [32, 111, 114, 32] (r.map ruleT)) := by
      intro m
      induction m with
      | zero =>
        intro i k a hi hk he hal
        obtain ⟨k, rfl⟩ : ∃ q, k = q + 1 := ⟨k - 1, by omega⟩
        obtain rfl : i = r.length := by omega
        rw [M_spec_FormatRules_L0, lt_f, cond_false, he, List.take_of_length_le (by simp)]
      | succ m ih =>
        intro i k a hi hk he hal
        obtain ⟨k, rfl⟩ : ∃ q, k = q + 1 := ⟨k - 1, by omega⟩
        have hlt : i < r.length := by omega
        have hg := List.getElem?_eq_getElem hlt
        obtain ⟨hl3, hlb⟩ := hb r[i] (List.getElem_mem hlt)
        have hrl := ruleT_len hl3 hlb
        have ht : (r.map ruleT).take (i + 1) = (r.map ruleT).take i ++ [ruleT r[i]] := by rw [List.take_add_one, List.getElem?_map, hg]; rfl
        rw [M_spec_FormatRules_L0, lt_t hlt, cond_true]
        rcases Nat.eq_zero_or_pos i with rfl | hp
        · have h0 : a = [] := by rw [he]; rfl
          subst h0
          rw [show decide ((0 : Int) < ((0 : Nat) : Int)) = false from rfl, cond_false, specIn2_t hg hf hl3 hlb (by simp), cl_true, ck_t (i64B_n (by omega)), succ_i]
          refine ih 1 k _ (by omega) (by omega) ?_ (by rw [List.nil_append]; exact Nat.le_trans hrl (by omega))
          rw [ht, List.take_zero, List.nil_append, List.nil_append, jn_one]
          rfl
        · rw [show decide ((0 : Int) < (i : Int)) = true from decide_eq_true (by omega), cond_true, ck_t (lenOK_s (by simp only [List.length_append, List.length_cons, List.length_nil]; omega)), specIn1_t hg hf hl3 hlb (by simp; omega), cl_true, ck_t (i64B_n (by omega)), succ_i]
          refine ih (i + 1) k _ (by omega) (by omega) ?_ (by
            have : (jn [44] (r[i].map testT)).length ≤ 93 := hrl
            simp; omega)
          rw [ht, jn_snoc _ _ _ (by
            intro hz
            have := congrArg List.length hz
            rw [List.length_take, List.length_map, List.length_nil] at this
            omega), he]
          rfl
    have := key r.length 0 fu [] (by omega) (by omega) rfl (Nat.le_refl _)
    rw [show ((0 : Nat) : Int) = 0 from rfl] at this
    rw [Bool.not_true, cond_false, this, cl_true]
    rfl
theorem implFR_t {fu : Nat} {r : List (List TTst)} (hf : 1048577 ≤ fu) (hr : RsOK r) : M_impl_FormatRules fu r = some (bif rsB r then jn [32, 111, 114, 32] (r.map ruleT) else []) := by
  unfold M_impl_FormatRules
  rw [implRs_t hf hr, cl_true]
  cases hv : rsB r
  · rfl
  · obtain ⟨h3, hb⟩ := rsB_len hv
    have inn : ∀ (i : Nat) (l : List TTst), r[i]? = some l → l.length ≤ 3 → (∀ t ∈ l, (0 ≤ t.1 ∧ t.1 ≤ 5) ∧ 1 ≤ t.2.1 ∧ t.2.1 ≤ 1000) → M_impl_FormatRules_L1 fu r (i : Int) fu (0 : Int) [] = some (l.map testT) := by
      intro i l hg hl3 hlb
      have hgg := gtD_get hg
      have key : ∀ m j k, j + m = l.length → m < k → M_impl_FormatRules_L1 fu r (i : Int) k (j : Int) ((l.map testT).take j) = some (l.map testT) := by
        intro m
        induction m with
        | zero =>
          intro j k hj hk
          obtain ⟨k, rfl⟩ : ∃ q, k = q + 1 := ⟨k - 1, by omega⟩
          obtain rfl : j = l.length := by omega
          rw [M_impl_FormatRules_L1, hgg, lt_f, cond_false, List.take_of_length_le (by simp)]
        | succ m ih =>
          intro j k hj hk
          obtain ⟨k, rfl⟩ : ∃ q, k = q + 1 := ⟨k - 1, by omega⟩
          have hlt : j < l.length := by omega
          have ht : (l.map testT).take (j + 1) = (l.map testT).take j ++ [testT l[j]] := by rw [List.take_add_one, List.getElem?_map, List.getElem?_eq_getElem hlt]; rfl
          rw [M_impl_FormatRules_L1, hgg, lt_t hlt, cond_true, ck_t (inR_t hlt), gtD_get (List.getElem?_eq_getElem hlt), implTT_t (hlb _ (List.getElem_mem hlt)), cl_true, ck_t (lenOK_t (by simp; omega)), ck_t (i64B_n (by omega)), succ_i, ← ht]
          exact ih (j + 1) k (by omega) (by omega)
      have := key l.length 0 fu (by omega) (by omega)
      rwa [show ((0 : Nat) : Int) = 0 from rfl, List.take_zero] at this
    have key : ∀ m i k, i + m = r.length → m < k → M_impl_FormatRules_L0 fu r k (i : Int) ((r.map ruleT).take i) = some (r.map ruleT) := by
      intro m
      induction m with
      | zero =>
        intro i k hi hk
        obtain ⟨k, rfl⟩ : ∃ q, k = q + 1 := ⟨k - 1, by omega⟩
        obtain rfl : i = r.length := by omega
        rw [M_impl_FormatRules_L0, lt_f, cond_false, List.take_of_length_le (by simp)]
      | succ m ih =>
        intro i k hi hk
        obtain ⟨k, rfl⟩ : ∃ q, k = q + 1 := ⟨k - 1, by omega⟩
        have hlt : i < r.length := by omega
        have hg := List.getElem?_eq_getElem hlt
        obtain ⟨hl3, hlb⟩ := hb r[i] (List.getElem_mem hlt)
        have hrl : (jn [44] (r[i].map testT)).length ≤ 93 := ruleT_len hl3 hlb
        have ht : (r.map ruleT).take (i + 1) = (r.map ruleT).take i ++ [ruleT r[i]] := by rw [List.take_add_one, List.getElem?_map, hg]; rfl
        rw [M_impl_FormatRules_L0, lt_t hlt, cond_true, ck_t (inR_t hlt), inn i _ hg hl3 hlb, cl_true, join_t (by simp; omega) (by omega), cl_true, ck_t (lenOK_t (by simp; omega)), ck_t (i64B_n (by omega)), succ_i, show [jn [44] (r[i].map testT)] = [ruleT r[i]] from rfl, ← ht]
        exact ih (i + 1) k (by omega) (by omega)
    have hk := key r.length 0 fu (by omega) (by omega)
    rw [show ((0 : Nat) : Int) = 0 from rfl, List.take_zero] at hk
    have hj := jn_len [32, 111, 114, 32] 93 (r.map ruleT) (fun x hx => by
      obtain ⟨l, hl, rfl⟩ := List.mem_map.1 hx
      obtain ⟨hl3, hlb⟩ := hb l hl
      exact ruleT_len hl3 hlb)
    rw [List.length_map] at hj
    rw [Bool.not_true, cond_false, hk, cl_true, join_t (by simp; omega) (by simp at hj; omega)]
    rfl
theorem hs_FormatRules {a0 : List (List TTst)} (h0 : (qS (qS (qP qI (qP qI qT)))) a0) (hw : w_RuleSet a0 ≤ 1048576) : ∃ r : List UInt8, M_spec_FormatRules 1048577 a0 = some r ∧ M_impl_FormatRules 1048577 a0 = some r := by
  have hr : RsOK a0 := rs_ok hw
  exact ⟨_, specFR_t (Nat.le_refl _) hr, implFR_t (Nat.le_refl _) hr⟩
end Go.Proofs.YtjdnomcpepbdaaaDoor

