/- Plain: what the law FnPrefixes asks. No statement of the seat is proved here. -/
import Derived.Test.YtkebpojbbfnehaaGreatEpre1
import Derived.Test.YtkebpojbbfnehaaGreatEord
namespace Go.Proofs.YtkebpojbbfnehaaGreat
open Go.RowKit
set_option linter.unusedVariables false
set_option linter.unusedSimpArgs false
theorem putS_all {P : List UInt8 → Prop} {l : List (List UInt8)} {x : List UInt8} (hl : ∀ y ∈ l, P y) (hx : P x) : ∀ y ∈ putS bLt l x, P y := fun y hy => by
  rcases putS_mem.1 hy with rfl | h
  · exact hx
  · exact hl y h
theorem set2_t {fu : Nat} {c : TCur} (hf : 1048577 ≤ fu) (hc : COK c) : Sm (M_spec_l3Set fu c) fun r => COK r.2 ∧ r.1.length ≤ 10 ∧ ∀ y ∈ r.1, y.length ≤ 10 := by
  unfold M_spec_l3Set
  refine .cl (below_t hc) fun n hn => ?_
  have h1 := hn.2.1
  have h2 := hn.2.2 (by omega)
  have key : ∀ (m : Nat) k (cc : TCur) (acc : List (List UInt8)), m < k → m ≤ 50 → COK cc → acc.length + m ≤ 10 → (∀ y ∈ acc, y.length ≤ 10) → Sm (M_spec_l3Set_L0 fu k (m : Int) cc acc) fun r => COK r.1 ∧ r.2.length ≤ 10 ∧ ∀ y ∈ r.2, y.length ≤ 10 := by
    intro m
    induction m with
    | zero =>
      intro k cc acc hk hm hcc ha he
      obtain ⟨k, rfl⟩ : ∃ q, k = q + 1 := ⟨k - 1, by omega⟩
      rw [M_spec_l3Set_L0, show decide ((0 : Int) < ((0 : Nat) : Int)) = false from rfl, cond_false]
      exact .some ⟨hcc, by show acc.length ≤ 10; omega, he⟩
    | succ m ih =>
      intro k cc acc hk hm hcc ha he
      obtain ⟨k, rfl⟩ : ∃ q, k = q + 1 := ⟨k - 1, by omega⟩
      rw [M_spec_l3Set_L0, pos_i, cond_true, pred_i]
      refine .cl (pickL 10 hcc (by decide) (by decide)) fun p hp => ?_
      rw [put_t (by omega) (by omega), cl_true, cond_false]
      have := putS_le acc p.1
      exact .ck (i64B_i _ (by omega)) (ih k p.2 _ (by omega) (by omega) hp.1 (by omega) (putS_all he hp.2))
  obtain ⟨m, hm⟩ : ∃ m : Nat, n.1 = (m : Int) := ⟨n.1.toNat, by omega⟩
  rw [hm]
  exact .cl (key m fu n.2 [] (by omega) (by omega) hn.1 (by rw [List.length_nil]; omega) (fun y h => (by cases h))) fun s hs => .some ⟨hs.1, hs.2⟩
/-- a list of few short tokens -/
def TokOK (l : List (List UInt8)) : Prop := l.length ≤ 11 ∧ ∀ y ∈ l, y.length ≤ 10
theorem any2_t {fu : Nat} {c : TCur} (hf : 1048577 ≤ fu) (hc : COK c) : Sm (M_spec_l3Any fu c) fun r => COK r.2 ∧ TokOK r.1 := by
  unfold M_spec_l3Any
  refine .cl (set2_t hf hc) fun s hs => .cl (once_t hs.1) fun o ho => .bif (fun _ => ?_) fun _ => .some ⟨ho, by have := hs.2.1; show s.1.length ≤ 11; omega, hs.2.2⟩
  refine .cl (pickL 10 ho (by decide) (by decide)) fun p hp => ?_
  have h2 := hs.2.1
  refine .ck (lenOK_t (by rw [List.length_singleton]; omega)) (.some ⟨hp.1, by show (s.1 ++ [p.1]).length ≤ 11; rw [List.length_append, List.length_singleton]; omega, fun y hy => ?_⟩)
  rcases List.mem_append.1 hy with hy | hy
  · exact hs.2.2 y hy
  · rw [List.mem_singleton.1 hy]; exact hp.2
theorem level_t {fu : Nat} {c : TCur} (hc : COK c) : Sm (M_spec_l5Level fu c) fun r => COK r.2 := by
  unfold M_spec_l5Level
  exact .cl (pickInt_t hc (by decide)) fun r hr => .some hr.1
theorem dShare_t {fu : Nat} {b : List Int} (hf : 1048577 ≤ fu) (hb : b.length ≤ 1048576) (hx : ∀ x ∈ b, 0 ≤ x ∧ x ≤ 255) : Sm (M_spec_DrawSharePrefix fu b) fun r => r.1.length ≤ 111 ∧ TokOK r.2.1 ∧ TokOK r.2.2.1 := by
  unfold M_spec_DrawSharePrefix
  exact .cl (new_t hf hb hx) fun c hc => .cl (table_t hf hc) fun t ht => .cl (any2_t hf ht.1) fun a ha => .cl (any2_t hf ha.1) fun b hb => .cl (level_t hb.1) fun l hl => .some ⟨ht.2, ha.2, hb.2⟩
/-! ### the least overlap -/
def good2 (x y t : Int) : Bool := (inI x 0 1000 && inI y 0 1000) && inI t 1 1000
def minO (x y t : Int) : Int := bif good2 x y t then (t * (x + y) + 999 + t) / (1000 + t) else -1
theorem good2_iff {x y t : Int} : good2 x y t = true ↔ (0 ≤ x ∧ x ≤ 1000) ∧ (0 ≤ y ∧ y ≤ 1000) ∧ 1 ≤ t ∧ t ≤ 1000 := by
  unfold good2 inI
  simp only [Bool.and_eq_true, decide_eq_true_eq]
  omega
theorem good2_b {x y t : Int} (h : good2 x y t = true) : 0 ≤ t * (x + y) ∧ t * (x + y) ≤ 2000000 := by
  obtain ⟨h1, h2, h3, h4⟩ := good2_iff.1 h
  have h5 : 0 ≤ t * (x + y) := Int.mul_nonneg (by omega) (by omega)
  have h6 : t * (x + y) ≤ 1000 * 2000 := Int.mul_le_mul h4 (by omega) (by omega) (by omega)
  omega
theorem minO_b {x y t : Int} (h : good2 x y t = true) : 0 ≤ (t * (x + y) + 999 + t) / (1000 + t) ∧ (t * (x + y) + 999 + t) / (1000 + t) ≤ 3000000 := by
  obtain ⟨h1, h2, h3, h4⟩ := good2_iff.1 h
  obtain ⟨b1, b2⟩ := good2_b h
  exact ⟨Int.ediv_nonneg (by omega) (by omega), by have := Int.ediv_le_self (1000 + t) (show 0 ≤ t * (x + y) + 999 + t by omega); omega⟩
theorem specMin_t {fu : Nat} {x y t : Int} : M_spec_MinOverlap fu x y t = some (minO x y t) := by
  unfold M_spec_MinOverlap M_spec_l5Good minO
  simp only [bd_eq, l1In_t, cl_true]
  simp only [cl_if]
  cases hg : good2 x y t
  · unfold good2 at hg
    cases h1 : inI x 0 1000 <;> cases h2 : inI y 0 1000 <;> cases h3 : inI t 1 1000 <;> rw [h1, h2, h3] at hg <;> first | rfl | cases hg
  · obtain ⟨b1, b2⟩ := good2_b hg
    obtain ⟨m1, m2⟩ := minO_b hg
    obtain ⟨h1, h2, h3, h4⟩ := good2_iff.1 hg
    have e : (t * (x + y) + 999 + t).tdiv (1000 + t) = (t * (x + y) + 999 + t) / (1000 + t) := Int.tdiv_eq_ediv_of_nonneg (by omega)
    have hn : (1000 + t != 0) = true := by simp; omega
    unfold good2 at hg
    rw [Bool.and_eq_true, Bool.and_eq_true] at hg
    rw [hg.1.1, hg.1.2, hg.2]
    show (bif false then _ else _) = _
    rw [cond_false, ck_t (i64B_t (by omega) (by omega)), ck_t (i64B_t (by omega) (by omega)), ck_t (i64B_t (by omega) (by omega)), ck_t (i64B_t (by omega) (by omega)), ck_t (i64B_t (by omega) (by omega)), ck_t hn, e, ck_t (i64B_t (by omega) (by omega))]
    rfl
theorem implMin_t {fu : Nat} {x y t : Int} : M_impl_MinOverlap fu x y t = some (minO x y t) := by
  unfold M_impl_MinOverlap minO M_impl_ceilDiv
  have z1 : M_impl_isSize fu x = some (inI x 0 1000) := rfl
  have z2 : M_impl_isSize fu y = some (inI y 0 1000) := rfl
  have z3 : M_impl_isThreshold fu t = some (inI t 1 1000) := rfl
  rw [z1, z2, z3]
  simp only [bd_eq, cl_true]
  simp only [cl_if]
  cases hg : good2 x y t
  · unfold good2 at hg
    cases h1 : inI x 0 1000 <;> cases h2 : inI y 0 1000 <;> cases h3 : inI t 1 1000 <;> rw [h1, h2, h3] at hg <;> first | rfl | cases hg
  · obtain ⟨b1, b2⟩ := good2_b hg
    obtain ⟨m1, m2⟩ := minO_b hg
    obtain ⟨h1, h2, h3, h4⟩ := good2_iff.1 hg
    have e : (t * (x + y) + (1000 + t) - 1).tdiv (1000 + t) = (t * (x + y) + 999 + t) / (1000 + t) := by
      rw [show t * (x + y) + (1000 + t) - 1 = t * (x + y) + 999 + t by omega]
      exact Int.tdiv_eq_ediv_of_nonneg (by omega)
    have hn : (1000 + t != 0) = true := by simp; omega
    unfold good2 at hg
    rw [Bool.and_eq_true, Bool.and_eq_true] at hg
    rw [hg.1.1, hg.1.2, hg.2]
    show (bif false then _ else _) = _
    rw [cond_false, ck_t (i64B_t (by omega) (by omega)), ck_t (i64B_t (by omega) (by omega)), ck_t (i64B_t (by omega) (by omega)), ck_t (i64B_t (by omega) (by omega)), ck_t (i64B_t (by omega) (by omega)), ck_t hn, e, ck_t (i64B_t (by omega) (by omega)), cl_true]
    rfl
theorem minO_le {x y t c : Int} (h : good2 x y t = true) : minO x y t ≤ c ↔ t * (x + y - c) ≤ 1000 * c := by
  obtain ⟨-, h2, h3, h4⟩ := good2_iff.1 h
  unfold minO
  rw [h, cond_true]
  have k1 : t * (x + y - c) = t * (x + y) - t * c := Int.mul_sub _ _ _
  have k2 : (c + 1) * (1000 + t) = 1000 * c + t * c + 1000 + t := by
    rw [Int.add_mul, Int.mul_add, Int.one_mul, Int.mul_comm c t, Int.mul_comm c 1000]
    omega
  have k3 := Int.ediv_lt_iff_lt_mul (a := t * (x + y) + 999 + t) (b := c + 1) (c := 1000 + t) (by omega)
  rw [k2] at k3
  rw [k1]
  omega
/-- what a pair that meets the threshold has in common -/
theorem meet_c {x y c t : Int} (h : good2 x y t = true) (c0 : 0 ≤ c) (cx : c ≤ x) (cy : c ≤ y) (hm : t * (x + y - c) ≤ 1000 * c) :
    x * t ≤ 1000 * c ∧ y * t ≤ 1000 * c ∧ (0 < x + y → 0 < c) := by
  obtain ⟨h1, h2, h3, h4⟩ := good2_iff.1 h
  have a1 : t * x ≤ t * (x + y - c) := Int.mul_le_mul_of_nonneg_left (by omega) (by omega)
  have a2 : t * y ≤ t * (x + y - c) := Int.mul_le_mul_of_nonneg_left (by omega) (by omega)
  have e1 := Int.mul_comm x t
  have e2 := Int.mul_comm y t
  refine ⟨by omega, by omega, fun hp => ?_⟩
  rcases Int.lt_or_le 0 c with hc | hc
  · exact hc
  · obtain rfl : c = 0 := by omega
    have : 1 * (x + y - 0) ≤ t * (x + y - 0) := Int.mul_le_mul_of_nonneg_right h3 (by omega)
    omega
theorem low_le {x t c : Int} (h : x * t ≤ 1000 * c) : lowB x t ≤ c := by
  unfold lowB
  omega
theorem high_ge {x y t : Int} (ht : 1 ≤ t) (h : y * t ≤ 1000 * x) : y ≤ highB x t := by
  unfold highB
  rw [Int.le_ediv_iff_mul_le (by omega)]
  omega
theorem interB_comm {a b : List (List UInt8)} (sa : SortedS bLt a) (sb : SortedS bLt b) : interB a b = interB b a := by
  refine sortedS_one sto_bLt (sa.sublist List.filter_sublist) (sb.sublist List.filter_sublist) fun x => ?_
  unfold interB
  rw [List.mem_filter, List.mem_filter]
  simp
  exact And.comm
theorem preL_nn {n : Nat} {t : Int} (h : goodLT n t = true) : 0 ≤ preL n t := by
  obtain ⟨h1, h2, h3, h4⟩ := good_iff.1 h
  unfold preL
  rw [h, cond_true]
  have : (n : Int) * t ≤ n * 1000 := Int.mul_le_mul_of_nonneg_left h4 h1
  unfold lowB
  split <;> omega
theorem preT_len {tb : List (List UInt8 × Int)} {a : List (List UInt8)} {t : Int} (ha : tokB a = true) (hg : goodLT a.length t = true) : ((preT tb a t).length : Int) = preL a.length t := by
  have h0 := preL_nn hg
  have h1 := preL_le h0 (by omega)
  unfold preT
  rw [ha, decide_eq_false (by omega), Bool.not_true, Bool.or_self, cond_false, List.length_take, ordL_length]
  omega
theorem preT_take {tb : List (List UInt8 × Int)} {a : List (List UInt8)} {t : Int} (ha : tokB a = true) (hg : goodLT a.length t = true) : preT tb a t = (ordL tb a).take (preL a.length t).toNat := by
  have h0 := preL_nn hg
  unfold preT
  rw [ha, decide_eq_false (by omega), Bool.not_true, Bool.or_self, cond_false]
theorem share_meet {tb : List (List UInt8 × Int)} {a b : List (List UInt8)} {t : Int} (hm : meetB a b t = true) (hp : 0 < a.length + b.length) : shareB tb a b t = true := by
  unfold meetB at hm
  simp only [Bool.and_eq_true, decide_eq_true_eq] at hm
  obtain ⟨⟨⟨ta, tb'⟩, ⟨ia, ib⟩, it⟩, hc⟩ := hm
  have hg : good2 a.length b.length t = true := by unfold good2; rw [ia, ib, it]; rfl
  obtain ⟨g1, g2, g3, g4⟩ := good2_iff.1 hg
  have sa := tok_sorted ta
  have sb := tok_sorted tb'
  have cx := interB_le a b
  have cy : (interB a b).length ≤ b.length := by rw [interB_comm sa sb]; exact interB_le b a
  obtain ⟨m1, m2, m3⟩ := meet_c hg (c := ((interB a b).length : Int)) (by omega) (by omega) (by omega) hc
  have hc0 := m3 (by omega)
  have ga : goodLT a.length t = true := good_iff.2 ⟨by omega, by omega, by omega, by omega⟩
  have gb : goodLT b.length t = true := good_iff.2 ⟨by omega, by omega, by omega, by omega⟩
  have la := low_le m1
  have lb := low_le m2
  have pa : preL a.length t = a.length - lowB a.length t + 1 := by
    unfold preL
    rw [ga, cond_true, if_neg (by omega)]
  have pb : preL b.length t = b.length - lowB b.length t + 1 := by
    unfold preL
    rw [gb, cond_true, if_neg (by omega)]
  have na := preL_nn ga
  have nb := preL_nn gb
  obtain ⟨m, h1, h2⟩ := share_of (tb := tb) (i := (preL a.length t).toNat) (j := (preL b.length t).toNat) sa sb (by omega) (by omega) (by omega)
  rw [← preT_take ta ga] at h1
  rw [← preT_take tb' gb] at h2
  unfold shareB
  have hm : m ∈ comB (preT tb a t) (preT tb b t) := by
    unfold comB
    exact List.mem_filter.2 ⟨setL_mem.2 h1, any_mem.2 h2⟩
  exact decide_eq_true (by have := List.length_pos_of_mem hm; omega)
theorem restP {fu : Nat} {a c : List (List UInt8)} {t : Int} (hf : 1048577 ≤ fu) (h2 : TokOK a) (h3 : TokOK c) (ta : tokB a = true) (tc : tokB c = true) (ht : inI t 1 1000 = true) :
    ((meetB a c t != decide (minO a.length c.length t ≤ ((interB a c).length : Int))) || (meetB a c t && (decide ((c.length : Int) < lowB a.length t) || decide (highB a.length t < (c.length : Int))))) = false := by
  have l2 := h2.1
  have l3 := h3.1
  have hg : good2 a.length c.length t = true := by
    unfold good2
    rw [ht, show inI (a.length : Int) 0 1000 = true from by unfold inI; rw [decide_eq_true (by omega), decide_eq_true (by omega)]; rfl, show inI (c.length : Int) 0 1000 = true from by unfold inI; rw [decide_eq_true (by omega), decide_eq_true (by omega)]; rfl]
    rfl
  obtain ⟨g1, g2, g3, g4⟩ := good2_iff.1 hg
  have sa := tok_sorted ta
  have sb := tok_sorted tc
  have cx := interB_le a c
  have cy : (interB a c).length ≤ c.length := by rw [interB_comm sa sb]; exact interB_le c a
  have em : meetB a c t = decide (minO a.length c.length t ≤ ((interB a c).length : Int)) := by
    have hh : ((tokB a && tokB c) && ((inI a.length 0 1000 && inI c.length 0 1000) && inI t 1 1000)) = true := by
      unfold good2 at hg
      rw [ta, tc, hg]
      rfl
    unfold meetB
    rw [hh, Bool.true_and]
    exact decide_eq_decide.2 (minO_le hg).symm
  rw [← em, bne_self_eq_false, Bool.false_or]
  cases hm : meetB a c t
  · rfl
  · rw [em, decide_eq_true_eq, minO_le hg] at hm
    obtain ⟨m1, m2, m3⟩ := meet_c hg (c := ((interB a c).length : Int)) (by omega) (by omega) (by omega) hm
    have ll := low_le m1
    have hh := high_ge (x := (a.length : Int)) (y := (c.length : Int)) g3 (by omega)
    rw [decide_eq_false (by omega), decide_eq_false (by omega)]
    rfl
theorem mainP {fu : Nat} {tb : List (List UInt8 × Int)} {a c : List (List UInt8)} {t : Int} (hf : 1048577 ≤ fu) (h1 : tb.length ≤ 111) (h2 : TokOK a) (h3 : TokOK c) : (
    cl true (M_impl_SharePrefix fu tb a c t) fun x9 =>
    cl true (M_spec_SharePrefix fu tb a c t) fun x11 =>
    cl (true && ((x9 != x11) == false)) (M_impl_PrefixTokens fu tb a t) fun x13 =>
    cl (true && ((x9 != x11) == false)) (M_spec_PrefixTokens fu tb a t) fun x15 =>
    cl (true && ((x9 != x11) == false)) (M_spec_EqualTokens fu x13 x15) fun x17 =>
    bd ((x9 != x11) || (!x17)) fun x19 =>
    bif x19 then (
      some false
    ) else (
      cl true (M_impl_MeetsJaccard fu a c t) fun x22 =>
      cl true (M_spec_MeetsJaccard fu a c t) fun x24 =>
      bif (x22 != x24) then (
        some false
      ) else (
        cl true (M_impl_LengthBounds fu (a.length : Int) t) fun x27 =>
        cl true (M_spec_LengthBounds fu (a.length : Int) t) fun x29 =>
        cl true (M_impl_MinOverlap fu (a.length : Int) (c.length : Int) t) fun x31 =>
        bd ((x27.1 != x29.1) || (x27.2 != x29.2)) fun x33 =>
        cl (true && (x33 == false)) (M_spec_MinOverlap fu (a.length : Int) (c.length : Int) t) fun x35 =>
        bd (x33 || (x31 != x35)) fun x37 =>
        cl (true && (x37 == false)) (M_impl_PrefixLength fu (a.length : Int) t) fun x39 =>
        cl (true && (x37 == false)) (M_spec_PrefixLength fu (a.length : Int) t) fun x41 =>
        bd (x37 || (x39 != x41)) fun x43 =>
        bif x43 then (
          some false
        ) else (
          cl true (M_spec_IsTokenSet fu a) fun x46 =>
          cl (true && ((!x46) == false)) (M_spec_IsTokenSet fu c) fun x48 =>
          bd ((!x46) || (!x48)) fun x50 =>
          bd (x50 || (decide (t < (1 : Int)))) fun x52 =>
          bd (x52 || (decide ((1000 : Int) < t))) fun x54 =>
          bif x54 then (
            some (!x22)
          ) else (
            cl true (M_spec_CommonTokens fu a c) fun x57 =>
            bd ((decide ((c.length : Int) < x27.1)) || (decide (x27.2 < (c.length : Int)))) fun x59 =>
            bd (x22 && x59) fun x61 =>
            bd ((x22 != (decide (x31 ≤ (x57.length : Int)))) || x61) fun x63 =>
            bif x63 then (
              some false
            ) else (
              cl true (M_impl_PrefixTokens fu tb a t) fun x66 =>
              cl true (M_spec_PrefixLength fu (a.length : Int) t) fun x68 =>
              bif ((x66.length : Int) != x68) then (
                some false
              ) else (
                ck (!(true && ((!x22) == false)) || i64B ((a.length : Int) + (c.length : Int))) <|
                bd ((!x22) || (((a.length : Int) + (c.length : Int)) == (0 : Int))) fun x72 =>
                bd (x72 || x9) fun x74 =>
                some x74
              )
            )
          )
        )
      )
    ))  = some true := by
  have l2 := h2.1
  have l3 := h3.1
  have ea : ∀ y ∈ a, y.length ≤ 1048576 := fun y hy => Nat.le_trans (h2.2 y hy) (by omega)
  have ec : ∀ y ∈ c, y.length ≤ 1048576 := fun y hy => Nat.le_trans (h3.2 y hy) (by omega)
  have hpl := preT_length tb a t
  have tf : (true && (false == false)) = true := rfl
  rw [implShare_t hf (by omega) (by omega) ea (by omega) ec, cl_true, specShare_t hf (by omega) (by omega) ea (by omega) ec, cl_true, bne_self_eq_false, tf, implPreT_t hf (by omega) (by omega) ea, cl_true, specPreT_t hf (by omega) (by omega) ea, cl_true, eqTok_t hf (by omega), cl_true, Bool.not_true, Bool.or_self, bd_eq, cond_false]
  rw [implMeet_t hf (by omega) ea (by omega) ec, cl_true, specMeet_t hf (by omega) ea (by omega) ec, cl_true, bne_self_eq_false, cond_false]
  rw [implBounds_t, cl_true, specBounds_t, cl_true, implMin_t, cl_true, bne_self_eq_false, bne_self_eq_false, Bool.or_self, bd_eq, tf, specMin_t, cl_true, bne_self_eq_false, Bool.or_self, bd_eq, tf, implPre_t, cl_true, specPre_t, cl_true, bne_self_eq_false, Bool.or_self, bd_eq, cond_false]
  rw [spec_tok hf (by omega) ea, cl_true, spec_tok hf (by omega) ec, cl_if, bd_eq, bd_eq, bd_eq]
  have it : inI t 1 1000 = ((!decide (t < 1)) && !decide ((1000 : Int) < t)) := by
    unfold inI
    rw [← decide_not, ← decide_not]
    congr 1 <;> exact decide_eq_decide.2 (by omega)
  cases ta : tokB a
  · have hm : meetB a c t = false := by unfold meetB; rw [ta]; rfl
    rw [hm]
    rfl
  cases tc : tokB c
  · have hm : meetB a c t = false := by unfold meetB; rw [ta, tc]; rfl
    rw [hm]
    rfl
  cases hi : inI t 1 1000
  · have hm : meetB a c t = false := by unfold meetB; rw [ta, tc, hi, Bool.and_false, Bool.and_false, Bool.false_and]
    rw [hm]
    rw [hi] at it
    cases k1 : decide (t < 1)
    · cases k2 : decide ((1000 : Int) < t)
      · rw [k1, k2] at it
        cases it
      · rfl
    · rfl
  · have hr := restP (t := t) hf h2 h3 ta tc hi
    rw [hi] at it
    have k1 : decide (t < 1) = false := by
      cases h : decide (t < 1)
      · rfl
      · rw [h] at it; cases it
    have k2 : decide ((1000 : Int) < t) = false := by
      cases h : decide ((1000 : Int) < t)
      · rfl
      · rw [h, k1] at it; cases it
    have hge : goodLT a.length t = true := by
      unfold inI at hi
      rw [Bool.and_eq_true, decide_eq_true_eq, decide_eq_true_eq] at hi
      exact good_iff.2 ⟨by omega, by omega, hi.1, hi.2⟩
    rw [k1, k2]
    show (bif false then _ else _) = _
    rw [cond_false, specCommon_t hf (by omega) (by omega), cl_true, common_eq, setL_id (tok_sorted ta), hge, cond_true, bd_eq, bd_eq, bd_eq]
    show (bif ((meetB a c t != decide (minO a.length c.length t ≤ ((interB a c).length : Int))) || (meetB a c t && (decide ((c.length : Int) < lowB a.length t) || decide (highB a.length t < (c.length : Int))))) then _ else _) = _
    rw [hr, cond_false, cl_true, cl_true, preT_len ta hge, bne_self_eq_false, cond_false, ck_t (by rw [i64B_t (by omega) (by omega), Bool.or_true]), bd_eq, bd_eq]
    congr 1
    cases hm : meetB a c t
    · rfl
    · cases h0 : ((a.length : Int) + (c.length : Int) == (0 : Int))
      · rw [share_meet hm (by rw [beq_eq_false_iff_ne] at h0; omega)]
        rfl
      · rfl
theorem law_FnPrefixes {fu : Nat} {b : List Int} (hf : 1048577 ≤ fu) (hx : ∀ x ∈ b, 0 ≤ x ∧ x ≤ 255) : M_laws_FnPrefixes fu b = some true := by
  unfold M_laws_FnPrefixes M_laws_big
  rw [cl_true]
  cases hl : decide ((1048576 : Int) < (b.length : Int))
  · rw [decide_eq_false_iff_not] at hl
    have hb : b.length ≤ 1048576 := by omega
    rw [cond_false]
    obtain ⟨⟨tb, a, c, t⟩, hp, p1, p2, p3⟩ := dShare_t (fu := fu) hf hb hx
    rw [hp, cl_true]
    exact mainP hf p1 p2 p3
  · rw [cond_true]
end Go.Proofs.YtkebpojbbfnehaaGreat

