/- Own texts laid together. No statement of the seat is proved here. -/
import Derived.Test.YtpneepiboheldaaDoorZx6
import Derived.Lib.SplitLaws
/- Plain: texts cut at a byte, program and reference alike. No statement of the seat is proved here. -/
namespace Go.Proofs.YtpneepiboheldaaDoor
open Go.RowKit
set_option linter.unusedVariables false
set_option linter.unusedSimpArgs false

/-- the parts of s between the bytes c -/
def spC (c : UInt8) : List UInt8 → List (List UInt8)
  | [] => [[]]
  | b :: s => if b = c then [] :: spC c s else match spC c s with
    | [] => [[b]]
    | x :: xs => (b :: x) :: xs
theorem spC_ne (c : UInt8) (s : List UInt8) : spC c s ≠ [] := by
  cases s with
  | nil => simp [spC]
  | cons b s =>
    unfold spC
    split
    · simp
    · cases spC c s <;> simp
theorem spC_none {c : UInt8} : ∀ {s : List UInt8}, c ∉ s → spC c s = [s]
  | [], _ => rfl
  | b :: s, h => by
    have h1 : b ≠ c := fun e => h (e ▸ List.mem_cons_self)
    have h2 := spC_none (c := c) (s := s) fun h' => h (List.mem_cons_of_mem _ h')
    unfold spC
    rw [if_neg h1, h2]
theorem spC_app {c : UInt8} : ∀ {x s : List UInt8}, c ∉ x → spC c (x ++ c :: s) = x :: spC c s
  | [], s, _ => by
    show spC c (c :: s) = _
    rw [spC, if_pos rfl]
  | b :: x, s, h => by
    have h1 : b ≠ c := fun e => h (e ▸ List.mem_cons_self)
    have h2 := spC_app (c := c) (x := x) (s := s) fun h' => h (List.mem_cons_of_mem _ h')
    rw [List.cons_append, spC, if_neg h1, h2]
theorem spC_len (c : UInt8) : ∀ s : List UInt8, (spC c s).length ≤ s.length + 1
  | [] => Nat.le_refl _
  | b :: s => by
    have := spC_len c s
    unfold spC
    split
    · simp only [List.length_cons]; omega
    · cases h : spC c s with
      | nil => simp
      | cons x xs => rw [h] at this; simp only [List.length_cons] at this ⊢; omega
theorem spC_mem (c : UInt8) : ∀ s : List UInt8, ∀ x ∈ spC c s, x.length ≤ s.length
  | [], x, hx => by rw [spC] at hx; rw [List.mem_singleton.1 hx]; exact Nat.le_refl _
  | b :: s, x, hx => by
    unfold spC at hx
    split at hx
    · rcases List.mem_cons.1 hx with rfl | hx
      · exact Nat.zero_le _
      · exact Nat.le_succ_of_le (spC_mem c s x hx)
    · cases h : spC c s with
      | nil => exact absurd h (spC_ne c s)
      | cons y ys =>
        rw [h] at hx
        rcases List.mem_cons.1 hx with rfl | hx
        · have := spC_mem c s y (by rw [h]; exact List.mem_cons_self)
          simp only [List.length_cons]; omega
        · have := spC_mem c s x (by rw [h]; exact List.mem_cons_of_mem _ hx)
          simp only [List.length_cons]; omega
/-- if no part is empty, there are few -/
theorem spC_few (c : UInt8) : ∀ s : List UInt8, (∀ x ∈ spC c s, x ≠ []) → 2 * (spC c s).length ≤ s.length + 1
  | [], h => (h [] (by simp [spC]) rfl).elim
  | b :: s, h => by
    by_cases hb : b = c
    · exact (h [] (by rw [spC, if_pos hb]; exact List.mem_cons_self) rfl).elim
    · cases hs : spC c s with
      | nil => exact absurd hs (spC_ne c s)
      | cons x xs =>
        have e : spC c (b :: s) = (b :: x) :: xs := by rw [spC, if_neg hb, hs]
        rw [e] at h ⊢
        by_cases hx : x = []
        · subst hx
          cases s with
          | nil =>
            rw [spC] at hs
            injection hs with _ hs
            subst hs
            simp
          | cons b2 s2 =>
            by_cases h2 : b2 = c
            · rw [spC, if_pos h2] at hs
              injection hs with _ hs
              have := spC_few c s2 (fun y hy => h y (List.mem_cons_of_mem _ (hs ▸ hy)))
              rw [hs] at this
              simp only [List.length_cons] at this ⊢
              omega
            · rw [spC, if_neg h2] at hs
              cases h3 : spC c s2 <;> rw [h3] at hs <;> simp at hs
        · have := spC_few c s (by
            rw [hs]
            intro y hy
            rcases List.mem_cons.1 hy with rfl | hy
            · exact hx
            · exact h y (List.mem_cons_of_mem _ hy))
          rw [hs] at this
          simp only [List.length_cons] at this ⊢
          omega
/-- a text laid with a byte between its parts -/
theorem spC_jn {c : UInt8} : ∀ {x : List UInt8} {xs : List (List UInt8)}, (∀ y ∈ x :: xs, c ∉ y) → spC c (x ++ (xs.map ([c] ++ ·)).flatten) = x :: xs
  | x, [], h => by
    rw [List.map_nil, List.flatten_nil, List.append_nil]
    exact spC_none (h x List.mem_cons_self)
  | x, y :: ys, h => by
    rw [List.map_cons, List.flatten_cons, show x ++ (([c] ++ y) ++ (ys.map ([c] ++ ·)).flatten) = x ++ c :: (y ++ (ys.map ([c] ++ ·)).flatten) by simp, spC_app (h x List.mem_cons_self), spC_jn fun z hz => h z (List.mem_cons_of_mem _ hz)]
/-! ### the reference -/
theorem bAt_get' {t : List UInt8} {i : Nat} {c : UInt8} (h : t[i]? = some c) : bAt t (i : Int) = (c.toNat : Int) := by
  unfold bAt
  simp [List.getD_eq_getElem?_getD, h]
theorem subL_mid {s : List UInt8} {a b : Nat} : subL s (a : Int) (b : Int) = (s.drop a).take (b - a) := by simp [subL]
theorem cut_loop {fu : Nat} {s : List UInt8} {c : UInt8} (hs : s.length ≤ 1048576) : ∀ m i a k (acc : List (List UInt8)), i + m = s.length → m < k → a ≤ i → acc.length ≤ i → c ∉ (s.drop a).take (i - a) →
    ∃ q : Nat × List (List UInt8), M_spec_l2Cut_L0 fu s (c.toNat : Int) k (a : Int) (i : Int) acc = some ((q.1 : Int), q.2) ∧ q.1 ≤ s.length ∧ q.2.length ≤ s.length ∧ q.2 ++ [s.drop q.1] = acc ++ spC c (s.drop a) := by
  intro m
  induction m with
  | zero =>
    intro i a k acc hi hk ha hacc hn
    obtain ⟨k, rfl⟩ : ∃ z, k = z + 1 := ⟨k - 1, by omega⟩
    obtain rfl : i = s.length := by omega
    refine ⟨(a, acc), by rw [M_spec_l2Cut_L0, lt_f]; rfl, ha, hacc, ?_⟩
    rw [List.take_of_length_le (by simp)] at hn
    rw [spC_none hn]
  | succ m ih =>
    intro i a k acc hi hk ha hacc hn
    obtain ⟨k, rfl⟩ : ∃ z, k = z + 1 := ⟨k - 1, by omega⟩
    have hlt : i < s.length := by omega
    have hx := List.getElem?_eq_getElem hlt
    have hdrop : s.drop a = (s.drop a).take (i - a) ++ s[i] :: s.drop (i + 1) := by
      have h1 : (s.drop a).drop (i - a) = s[i] :: s.drop (i + 1) := by
        rw [List.drop_drop, show a + (i - a) = i by omega]
        exact List.drop_eq_getElem_cons hlt
      rw [← h1, List.take_append_drop]
    rw [M_spec_l2Cut_L0, lt_t hlt, cond_true, ck_t (inR_t hlt), bAt_get' hx]
    by_cases hc : s[i] = c
    · have e : ((s[i].toNat : Int) == (c.toNat : Int)) = true := by rw [hc]; simp
      obtain ⟨q, h1, h2, h3, h4⟩ := ih (i + 1) (i + 1) k (acc ++ [(s.drop a).take (i - a)]) (by omega) (by omega) (Nat.le_refl _) (by simp; omega) (by simp)
      refine ⟨q, ?_, h2, h3, ?_⟩
      · rw [e, cond_true, ck_t (subR_iff.2 ⟨by omega, by omega, by omega⟩), ck_t (lenOK_t (by simp; omega)), ck_t (i64B_n (by omega)), ck_t (i64B_n (by omega)), succ_i, subL_mid]
        exact h1
      · have e3 := congrArg (spC c) hdrop
        rw [hc, spC_app hn] at e3
        rw [h4, e3, List.append_assoc]
        rfl
    · have e : ((s[i].toNat : Int) == (c.toNat : Int)) = false := by
        rw [beq_eq_false_iff_ne]
        intro h
        exact hc (UInt8.toNat_inj.1 (by omega))
      obtain ⟨q, h1, h2, h3, h4⟩ := ih (i + 1) a k acc (by omega) (by omega) (by omega) (by omega) (by
        have ht : (s.drop a).take (i + 1 - a) = (s.drop a).take (i - a) ++ [s[i]] := by
          rw [show i + 1 - a = (i - a) + 1 by omega, List.take_add_one, List.getElem?_drop, show a + (i - a) = i by omega, hx]
          rfl
        rw [ht]
        intro h
        rcases List.mem_append.1 h with h | h
        · exact hn h
        · exact hc (List.mem_singleton.1 h).symm)
      refine ⟨q, ?_, h2, h3, h4⟩
      rw [e, cond_false, ck_t (i64B_n (by omega)), succ_i]
      exact h1
theorem l2Cut_t {fu : Nat} {s : List UInt8} {c : UInt8} (hf : 1048577 ≤ fu) (hs : s.length ≤ 1048576) : M_spec_l2Cut fu s (c.toNat : Int) = some (spC c s) := by
  obtain ⟨q, h1, h2, h3, h4⟩ := cut_loop (fu := fu) (c := c) hs s.length 0 0 fu [] (by omega) (by omega) (Nat.le_refl _) (Nat.zero_le _) (by simp)
  unfold M_spec_l2Cut
  have e : subL s (q.1 : Int) (s.length : Int) = s.drop q.1 := by
    unfold subL
    exact List.take_of_length_le (by simp only [List.length_drop]; omega)
  rw [show (0 : Int) = ((0 : Nat) : Int) from rfl, h1, cl_true]
  dsimp only
  rw [ck_t (subR_iff.2 ⟨by omega, by omega, by omega⟩), e, ck_t (lenOK_t (by simp; omega)), h4]
  simp
/-! ### the program -/
theorem idx_cons_ne {b c : UInt8} {l : List UInt8} (h : b ≠ c) : Lib.index (b :: l) [c] = if Lib.index l [c] == -1 then -1 else Lib.index l [c] + 1 := by
  have hp : ([c] : List UInt8).isPrefixOf (b :: l) = false := by simp [List.isPrefixOf, Ne.symm h]
  rw [Lib.index, hp]
  simp
theorem splitK_spC (c : UInt8) : ∀ s : List UInt8, Lib.splitK [c] 0 (Lib.count s [c]) s = spC c s
  | [] => by rw [Lib.count_one]; rfl
  | b :: l => by
    have ih := splitK_spC c l
    by_cases h : b = c
    · subst h
      rw [Lib.count_cons_eq, Nat.add_comm, Lib.splitK, show Lib.index (b :: l) [b] = 0 by rw [Lib.index]; simp [List.isPrefixOf], if_neg (by decide), spC, if_pos rfl]
      simpa using ih
    · rw [Lib.count_cons_ne b c l h, spC, if_neg h, ← ih]
      cases hk : Lib.count l [c] with
      | zero => rfl
      | succ k =>
        have hm : Lib.index l [c] ≠ -1 := fun hm => by rw [Lib.count_miss hm] at hk; cases hk
        have hge := Lib.index_ge l [c]
        obtain ⟨j, hj⟩ : ∃ j : Nat, Lib.index l [c] = j := ⟨(Lib.index l [c]).toNat, by omega⟩
        have e2 : ((j : Int) + 1).toNat = j + 1 := by omega
        rw [Lib.splitK, idx_cons_ne h, hj, if_neg (by simp; omega), if_neg (by simp), e2, Lib.splitK, hj, if_neg (by simp)]
        simp
theorem split_t {fu : Nat} {s : List UInt8} {c : UInt8} (hs : s.length ≤ 1048576) : M_split fu s [c] = some (spC c s) := by
  unfold M_split splitM
  rw [ck_t (by simp; omega), Lib.splitB_data]
  unfold Lib.countB
  rw [splitK_spC]
theorem cutM_t {fu : Nat} {s sep : List UInt8} (hs : s.length ≤ 1048576) : M_cut fu s sep = some (Lib.cut s sep) := by
  unfold M_cut
  rw [ck_t (by simp; omega)]
end Go.Proofs.YtpneepiboheldaaDoor
/- Plain: numbers read from texts, program and reference alike. No statement of the seat is proved here. -/
namespace Go.Proofs.YtpneepiboheldaaDoor
open Go.RowKit
set_option linter.unusedVariables false
set_option linter.unusedSimpArgs false

/-- s is the decimal text of n, a number of nine digits at most -/
def IsI (s : List UInt8) (n : Int) : Prop := Lib.itoa n = s ∧ -999999999 ≤ n ∧ n ≤ 999999999
theorem dig_nat (d : Nat) (h : d < 10) : (UInt8.ofNat (48 + d)).toNat = 48 + d := by
  rw [UInt8.toNat_ofNat']
  omega
theorem dec_small {u : Nat} (h : u < 10) : Lib.decDigits u = [UInt8.ofNat (48 + u)] := by rw [Lib.decDigits, dif_pos h]
theorem dec_big {u : Nat} (h : ¬ u < 10) : Lib.decDigits u = Lib.decDigits (u / 10) ++ [UInt8.ofNat (48 + u % 10)] := by rw [Lib.decDigits, dif_neg h]
theorem dec_dig (u : Nat) : ∀ c ∈ Lib.decDigits u, 48 ≤ c.toNat ∧ c.toNat ≤ 57 := by
  induction u using Nat.strongRecOn with
  | _ u ih =>
    intro c hc
    by_cases h : u < 10
    · rw [dec_small h] at hc
      rw [List.mem_singleton.1 hc, dig_nat u h]
      omega
    · rw [dec_big h] at hc
      rcases List.mem_append.1 hc with hc | hc
      · exact ih (u / 10) (by omega) c hc
      · rw [List.mem_singleton.1 hc, dig_nat _ (Nat.mod_lt _ (by omega))]
        omega
theorem dec_ne (u : Nat) : Lib.decDigits u ≠ [] := by
  by_cases h : u < 10
  · rw [dec_small h]; simp
  · rw [dec_big h]; simp
/-! ### the reference's scan -/
def scS (p : Nat × Nat) (c : UInt8) : Nat × Nat := if 48 ≤ c.toNat ∧ c.toNat ≤ 57 then (p.1 * 10 + (c.toNat - 48), p.2 + 1) else p
theorem sc_dec (u : Nat) : (Lib.decDigits u).foldl scS (0, 0) = (u, (Lib.decDigits u).length) := by
  induction u using Nat.strongRecOn with
  | _ u ih =>
    by_cases h : u < 10
    · rw [dec_small h]
      have := dig_nat u h
      simp only [List.foldl_cons, List.foldl_nil, scS, this, List.length_singleton]
      rw [if_pos (by omega)]
      simp
    · have hd := dig_nat (u % 10) (Nat.mod_lt _ (by omega))
      rw [dec_big h, List.foldl_append, ih (u / 10) (by omega)]
      simp only [List.foldl_cons, List.foldl_nil, scS, hd, List.length_append, List.length_singleton]
      rw [if_pos (by omega)]
      congr 1
      omega
theorem sc_lt : ∀ (s : List UInt8) (p : Nat × Nat), p.1 < 10 ^ p.2 → (s.foldl scS p).1 < 10 ^ (s.foldl scS p).2
  | [], p, h => h
  | c :: s, p, h => by
    rw [List.foldl_cons]
    refine sc_lt s _ ?_
    unfold scS
    split
    · show p.1 * 10 + (c.toNat - 48) < 10 ^ (p.2 + 1)
      rw [Nat.pow_succ]
      omega
    · exact h
theorem sc_cnt : ∀ (s : List UInt8) (p : Nat × Nat), (s.foldl scS p).2 ≤ p.2 + s.length
  | [], p => Nat.le_refl _
  | c :: s, p => by
    have := sc_cnt s (scS p c)
    rw [List.foldl_cons, List.length_cons]
    have h : (scS p c).2 ≤ p.2 + 1 := by
      unfold scS
      split
      · exact Nat.le_refl _
      · exact Nat.le_succ _
    omega
theorem pow_le11 {k : Nat} (h : k ≤ 11) : 10 ^ k ≤ 100000000000 := Nat.le_trans (Nat.pow_le_pow_right (by omega) h) (by omega)
theorem scan_t {fu : Nat} {s : List UInt8} (hs : s.length ≤ 1048576) : ∀ m i k (p : Nat × Nat), (i + m = s.length ∨ (m = 0 ∧ 11 ≤ i)) → i ≤ 11 → m < k → p.1 < 10 ^ p.2 → p.2 ≤ i → (s.take 11).take i = s.take i →
    M_spec_ParseInt_L0 fu s k (p.1 : Int) (p.2 : Int) (i : Int) = some (((((s.take 11).drop i).foldl scS p).1 : Int), ((((s.take 11).drop i).foldl scS p).2 : Int)) := by
  intro m
  induction m with
  | zero =>
    intro i k p hi h11 hk hp hpi ht
    obtain ⟨k, rfl⟩ : ∃ z, k = z + 1 := ⟨k - 1, by omega⟩
    have hd : (s.take 11).drop i = [] := List.drop_eq_nil_of_le (by rw [List.length_take]; omega)
    have hc : (decide ((i : Int) < (s.length : Int)) && decide ((i : Int) < 11)) = false := by
      rw [Bool.and_eq_false_imp, decide_eq_true_eq, decide_eq_false_iff_not]
      omega
    rw [M_spec_ParseInt_L0, bd_eq, hc, cond_false, hd]
    rfl
  | succ m ih =>
    intro i k p hi h11 hk hp hpi ht
    obtain ⟨k, rfl⟩ : ∃ z, k = z + 1 := ⟨k - 1, by omega⟩
    have hlt : i < s.length := by omega
    by_cases h : i < 11
    · have hc : (decide ((i : Int) < (s.length : Int)) && decide ((i : Int) < 11)) = true := by
        rw [Bool.and_eq_true, decide_eq_true_eq, decide_eq_true_eq]
        omega
      have hx := List.getElem?_eq_getElem hlt
      have hb := bAt_get' hx
      have h256 : s[i].toNat < 256 := UInt8.toNat_lt _
      have hdrop : (s.take 11).drop i = s[i] :: (s.take 11).drop (i + 1) := by
        rw [List.drop_eq_getElem_cons (by rw [List.length_take]; omega), List.getElem_take]
      have hpb : p.1 ≤ 100000000000 := Nat.le_of_lt (Nat.lt_of_lt_of_le hp (pow_le11 (by omega)))
      have hw : IntKind.i64.wrap (IntKind.u8.wrap ((s[i].toNat : Int) - 48)) = ((s[i].toNat - 48 : Nat) : Int) ∨ s[i].toNat < 48 := by
        rcases Nat.lt_or_ge s[i].toNat 48 with h' | h'
        · exact .inr h'
        · left
          have e : ((s[i].toNat : Int) - 48) = ((s[i].toNat - 48 : Nat) : Int) := by omega
          rw [e]
          have h1 : IntKind.u8.wrap ((s[i].toNat - 48 : Nat) : Int) = ((s[i].toNat - 48 : Nat) : Int) := by
            unfold IntKind.wrap
            simp [IntKind.bits, IntKind.signed]
            omega
          rw [h1]
          exact IntWalk.i64_in _ (by omega)
      have hnext : ∀ q : Nat × Nat, q.1 < 10 ^ q.2 → q.2 ≤ i + 1 → M_spec_ParseInt_L0 fu s k (q.1 : Int) (q.2 : Int) ((i + 1 : Nat) : Int) = some (((((s.take 11).drop (i + 1)).foldl scS q).1 : Int), ((((s.take 11).drop (i + 1)).foldl scS q).2 : Int)) := fun q h1 h2 =>
        ih (i + 1) k q (by omega) (by omega) (by omega) h1 h2 (by rw [List.take_take, Nat.min_eq_left (by omega)])
      rw [M_spec_ParseInt_L0, bd_eq, hc, cond_true, ck_t (inR_t hlt), hb, ck_t (by rw [inR_t hlt, Bool.or_true]), bd_eq, hdrop, List.foldl_cons]
      by_cases hdg : 48 ≤ s[i].toNat ∧ s[i].toNat ≤ 57
      · have hd : (decide ((48 : Int) ≤ (s[i].toNat : Int)) && decide ((s[i].toNat : Int) ≤ 57)) = true := by
          rw [Bool.and_eq_true, decide_eq_true_eq, decide_eq_true_eq]
          omega
        have hw' := hw.resolve_right (by omega)
        have e : scS p s[i] = (p.1 * 10 + (s[i].toNat - 48), p.2 + 1) := if_pos hdg
        have hq := hnext (p.1 * 10 + (s[i].toNat - 48), p.2 + 1) (by show _ < 10 ^ (p.2 + 1); rw [Nat.pow_succ]; omega) (by show p.2 + 1 ≤ i + 1; omega)
        rw [hd, cond_true, hw', ck_t (i64B_t (by omega) (by omega)), ck_t (inR_t hlt), ck_t (i64B_t (by omega) (by omega)), ck_t (i64B_t (by omega) (by omega)), ck_t (i64B_n (by omega)), e, ← hq]
        congr 1
      · have hd : (decide ((48 : Int) ≤ (s[i].toNat : Int)) && decide ((s[i].toNat : Int) ≤ 57)) = false := by
          rw [Bool.and_eq_false_imp, decide_eq_true_eq, decide_eq_false_iff_not]
          omega
        have e : scS p s[i] = p := if_neg hdg
        rw [hd, cond_false, ck_t (i64B_n (by omega)), e, succ_i]
        exact hnext p hp (by omega)
    · have hd : (s.take 11).drop i = [] := List.drop_eq_nil_of_le (by rw [List.length_take]; omega)
      have hc : (decide ((i : Int) < (s.length : Int)) && decide ((i : Int) < 11)) = false := by
        rw [Bool.and_eq_false_imp, decide_eq_true_eq, decide_eq_false_iff_not]
        omega
      rw [M_spec_ParseInt_L0, bd_eq, hc, cond_false, hd]
      rfl
theorem itoa_pos {n : Int} (h : 0 ≤ n) : Lib.itoa n = Lib.decDigits n.toNat := by unfold Lib.itoa; rw [if_neg (by omega)]
theorem itoa_neg' {n : Int} (h : n < 0) : Lib.itoa n = 45 :: Lib.decDigits n.natAbs := by unfold Lib.itoa; rw [if_pos h]
theorem dec_len9 {u : Nat} (h : u ≤ 999999999) : (Lib.decDigits u).length ≤ 9 := decDigits_le 8 u (by omega)
/-- what a text of a number looks like -/
theorem isI_scan {s : List UInt8} {n : Int} (h : IsI s n) : s.length ≤ 10 ∧ 0 < s.length ∧ s.foldl scS (0, 0) = (n.natAbs, (Lib.decDigits n.natAbs).length) ∧ (Lib.decDigits n.natAbs).length ≤ 9 ∧ (s[0]? = some 45 ↔ n < 0) := by
  obtain ⟨rfl, h1, h2⟩ := h
  have hl := dec_len9 (u := n.natAbs) (by omega)
  have hp := List.length_pos_iff.2 (dec_ne n.natAbs)
  by_cases hn : n < 0
  · rw [itoa_neg' hn]
    refine ⟨by simp; omega, by simp, ?_, hl, by simp [hn]⟩
    rw [List.foldl_cons, show scS (0, 0) 45 = (0, 0) from rfl, sc_dec]
  · rw [itoa_pos (by omega), show n.toNat = n.natAbs by omega]
    refine ⟨by omega, hp, sc_dec _, hl, ?_⟩
    constructor
    · intro h
      have := dec_dig n.natAbs 45 (List.mem_of_getElem? h)
      exact absurd this.1 (by decide)
    · intro h; omega
/-- read as a number, or not -/
def RdI (s : List UInt8) (r : Int × Bool) : Prop := (∃ n, IsI s n ∧ r = (n, true)) ∨ ((∀ n, ¬ IsI s n) ∧ r = (0, false))
theorem isI_one {s : List UInt8} {n m : Int} (h : IsI s n) (k : IsI s m) : n = m := by
  have a := isI_scan h
  have b := isI_scan k
  have e : n.natAbs = m.natAbs := by
    have := a.2.2.1.symm.trans b.2.2.1
    injection this
  have := a.2.2.2.2
  have := b.2.2.2.2
  by_cases hs : s[0]? = some 45
  · have := a.2.2.2.2.1 hs
    have := b.2.2.2.2.1 hs
    omega
  · have h1 : ¬ n < 0 := fun h => hs (a.2.2.2.2.2 h)
    have h2 : ¬ m < 0 := fun h => hs (b.2.2.2.2.2 h)
    omega
theorem RdI.one {s : List UInt8} {r q : Int × Bool} (h : RdI s r) (k : RdI s q) : r = q := by
  rcases h with ⟨n, h1, rfl⟩ | ⟨h1, rfl⟩ <;> rcases k with ⟨m, k1, rfl⟩ | ⟨k1, rfl⟩
  · rw [isI_one h1 k1]
  · exact absurd h1 (k1 n)
  · exact absurd k1 (h1 m)
  · rfl
theorem RdI.no {s : List UInt8} (h : RdI s (0, false)) : ∀ n, ¬ IsI s n := by
  rcases h with ⟨n, _, h⟩ | ⟨h, _⟩
  · cases h
  · exact h
theorem specPI_t {fu : Nat} {s : List UInt8} (hf : 1048577 ≤ fu) (hs : s.length ≤ 1048576) : ∃ r, M_spec_ParseInt fu s = some r ∧ RdI s r := by
  have hsc := scan_t (fu := fu) hs s.length 0 fu (0, 0) (.inl (by omega)) (by omega) (by omega) (by decide) (Nat.le_refl _) (by simp)
  rw [List.drop_zero] at hsc
  have hlt := sc_lt (s.take 11) (0, 0) (by decide)
  have hct := sc_cnt (s.take 11) (0, 0)
  have htk : (s.take 11).length ≤ 11 := by rw [List.length_take]; omega
  generalize hp : (s.take 11).foldl scS (0, 0) = p at hsc hlt hct
  have hpb : p.1 ≤ 100000000000 := Nat.le_of_lt (Nat.lt_of_lt_of_le hlt (pow_le11 (by omega)))
  have hM : M_spec_ParseInt_L0 fu s fu 0 0 0 = some ((p.1 : Int), (p.2 : Int)) := hsc
  have h45 : ((decide ((0 : Int) < (s.length : Int))) && ((bAt s (0 : Int)) == (45 : Int))) = decide (s[0]? = some 45) := by
    cases s with
    | nil => rfl
    | cons b l =>
      have hb : bAt (b :: l) (0 : Int) = (b.toNat : Int) := bAt_get' (i := 0) rfl
      rw [hb, decide_eq_true (by simp), Bool.true_and]
      by_cases e : b = 45
      · subst e; rfl
      · rw [decide_eq_false (by simpa using e), beq_eq_false_iff_ne]
        intro h
        exact e (UInt8.toNat_inj.1 (by show b.toNat = 45; omega))
  have hck : (!(true && ((decide ((0 : Int) < (s.length : Int))) == true)) || inR (0 : Int) s.length) = true := by
    cases s with
    | nil => rfl
    | cons b l => rw [inR_iff.2 ⟨Int.le_refl _, by simp⟩, Bool.or_true]
  -- both arms read alike
  have arm : ∀ z : Int, (z = (p.1 : Int) ∧ s[0]? ≠ some 45) ∨ (z = 0 - (p.1 : Int) ∧ s[0]? = some 45) →
      ∃ r, (bd ((decide ((9 : Int) < (p.2 : Int))) || (decide ((10 : Int) < (s.length : Int)))) fun x33 =>
        cl (true && (x33 == false)) (M_spec_FormatInt fu z) fun x35 =>
        bd (x33 || (!(x35 == s))) fun x37 =>
        bif x37 then (some ((0 : Int), false)) else (some (z, true))) = some r ∧ RdI s r := by
    intro z hz
    rw [bd_eq]
    have key : ∀ n, IsI s n → n = z ∧ p.2 ≤ 9 ∧ s.length ≤ 10 := fun n hn => by
      obtain ⟨a1, a2, a3, a4, a5⟩ := isI_scan hn
      rw [List.take_of_length_le (by omega), a3] at hp
      subst hp
      refine ⟨?_, a4, a1⟩
      rcases hz with ⟨rfl, h⟩ | ⟨rfl, h⟩
      · have : ¬ n < 0 := fun hn => h (a5.2 hn)
        show n = (n.natAbs : Int)
        omega
      · have := a5.1 h
        show n = 0 - (n.natAbs : Int)
        omega
    cases hg : (decide ((9 : Int) < (p.2 : Int))) || (decide ((10 : Int) < (s.length : Int)))
    · rw [Bool.or_eq_false_iff, decide_eq_false_iff_not, decide_eq_false_iff_not] at hg
      have h9 : p.1 < 1000000000 := Nat.lt_of_lt_of_le hlt (Nat.le_trans (Nat.pow_le_pow_right (n := 10) (by omega) (show p.2 ≤ 9 by omega)) (by omega))
      rw [show (true && (false == false)) = true from rfl, specFI_t hf (by omega) (by omega), cl_true, bd_eq, Bool.false_or]
      cases he : Lib.itoa z == s
      · refine ⟨_, by rw [Bool.not_false, cond_true], .inr ⟨fun n hn => ?_, rfl⟩⟩
        obtain ⟨rfl, _⟩ := key n hn
        rw [hn.1, beq_self_eq_true] at he
        cases he
      · exact ⟨_, by rw [Bool.not_true, cond_false], .inl ⟨z, ⟨by simpa using he, by omega, by omega⟩, rfl⟩⟩
    · rw [show (true && (true == false)) = false from rfl, cl_false, bd_eq, Bool.true_or, cond_true]
      refine ⟨_, rfl, .inr ⟨fun n hn => ?_, rfl⟩⟩
      obtain ⟨_, h1, h2⟩ := key n hn
      rw [Bool.or_eq_true, decide_eq_true_eq, decide_eq_true_eq] at hg
      omega
  unfold M_spec_ParseInt
  rw [hM, cl_true, ck_t hck, bd_eq, h45]
  by_cases hs0 : s[0]? = some 45
  · rw [decide_eq_true hs0, cond_true, ck_t (i64B_t (by omega) (by omega))]
    exact arm _ (.inr ⟨rfl, hs0⟩)
  · rw [decide_eq_false hs0, cond_false]
    exact arm _ (.inl ⟨rfl, hs0⟩)
/-! ### the program -/
theorem pu_app : ∀ (xs : List UInt8) (acc v d : Nat), Lib.parseUint10 acc xs = .ok v → v < 1000000000 → d < 10 → Lib.parseUint10 acc (xs ++ [UInt8.ofNat (48 + d)]) = .ok (v * 10 + d)
  | [], acc, v, d, h, hv, hd => by
    simp only [Lib.parseUint10] at h
    injection h with h
    subst h
    have := dig_nat d hd
    simp only [List.nil_append, Lib.parseUint10, this]
    rw [if_pos (by omega), if_neg (by omega), if_neg (by omega)]
    congr 1
    omega
  | c :: xs, acc, v, d, h, hv, hd => by
    rw [List.cons_append]
    simp only [Lib.parseUint10] at h ⊢
    split at h
    · rename_i h1
      rw [if_pos h1]
      split at h
      · cases h
      · rename_i h2
        rw [if_neg h2]
        split at h
        · cases h
        · rename_i h3
          rw [if_neg h3]
          exact pu_app xs _ v d h hv hd
    · cases h
theorem pu_dec (u : Nat) (h : u ≤ 999999999) : Lib.parseUint10 0 (Lib.decDigits u) = .ok u := by
  induction u using Nat.strongRecOn with
  | _ u ih =>
    by_cases h10 : u < 10
    · rw [dec_small h10]
      have := pu_app [] 0 0 u rfl (by omega) h10
      rw [List.nil_append] at this
      simpa using this
    · rw [dec_big h10, pu_app _ 0 (u / 10) (u % 10) (ih (u / 10) (by omega) (by omega)) (by omega) (Nat.mod_lt _ (by omega))]
      congr 1
      omega
theorem atoi_itoa {n : Int} (h1 : -999999999 ≤ n) (h2 : n ≤ 999999999) : Lib.atoiAll (Lib.itoa n) = .ok n := by
  have hm : ∀ u : Nat, u ≤ 999999999 → Lib.parseMag (Lib.decDigits u) = .ok u := fun u hu => by
    unfold Lib.parseMag
    rw [if_neg (dec_ne u), pu_dec u hu]
  by_cases hn : n < 0
  · rw [itoa_neg' hn]
    unfold Lib.atoiAll
    simp only [show ((45 : UInt8).toNat = 43 ∨ (45 : UInt8).toNat = 45) = True from by simp, if_true, hm n.natAbs (by omega)]
    simp only [show ((45 : UInt8).toNat = 45) = True from by simp, not_true, false_and, if_false, true_and, if_true]
    rw [if_neg (by omega)]
    congr 1
    omega
  · rw [itoa_pos (by omega)]
    have hne := dec_ne n.toNat
    have hdg := dec_dig n.toNat
    have hm' := hm n.toNat (by omega)
    cases hd : Lib.decDigits n.toNat with
    | nil => exact absurd hd hne
    | cons c r =>
      rw [hd] at hdg hm'
      have hc := hdg c List.mem_cons_self
      unfold Lib.atoiAll
      simp only []
      rw [if_neg (by omega), hm']
      simp only []
      rw [if_neg (by omega), if_neg (by omega), if_neg (by omega)]
      congr 1
      omega
theorem atoi_i64 {s : List UInt8} {v : Int} (h : Lib.atoiAll s = .ok v) : -9223372036854775808 ≤ v ∧ v ≤ 9223372036854775807 := by
  unfold Lib.atoiAll at h
  cases s with
  | nil => cases h
  | cons c r =>
    simp only [] at h
    cases hm : Lib.parseMag (if c.toNat = 43 ∨ c.toNat = 45 then r else c :: r) with
    | ok u =>
      rw [hm] at h
      simp only [] at h
      split at h
      · cases h
      · split at h
        · cases h
        · injection h with h
          split at h <;> omega
    | _ => rw [hm] at h; cases h
theorem implPI_t {fu : Nat} {s : List UInt8} (hs : s.length ≤ 1048576) : ∃ r, M_impl_ParseInt fu s = some r ∧ RdI s r := by
  unfold M_impl_ParseInt M_atoi
  rw [ck_t (lenOK_t (by omega)), cl_true]
  have no : ∀ n, IsI s n → Lib.atoiAll s = .ok n := fun n hn => by rw [← hn.1]; exact atoi_itoa hn.2.1 hn.2.2
  have bad : ∀ a : Int, (∀ n, ¬ IsI s n) → ∃ r, (cl (true && (true == false)) (M_impl_FormatInt fu a) fun x4 =>
      bd (true || (!(x4 == s))) fun x6 =>
      cl (true && (x6 == false)) (M_impl_within fu a (-999999999 : Int) (999999999 : Int)) fun x8 =>
      bd (x6 || (!x8)) fun x10 =>
      bif x10 then (some ((0 : Int), false)) else (some (a, true))) = some r ∧ RdI s r := fun a h => ⟨_, rfl, .inr ⟨h, rfl⟩⟩
  cases hc : Lib.atoiAll s with
  | range =>
    have e : atoiR s = (Lib.atoiSat s, true) := by unfold atoiR; rw [hc]
    rw [e]
    exact bad _ fun n hn => by rw [no n hn] at hc; cases hc
  | ok v =>
    have e : atoiR s = (v, false) := by unfold atoiR; rw [hc]
    have hv := atoi_i64 hc
    rw [e]
    dsimp only
    rw [show (true && (false == false)) = true from rfl, implFI_t hv.1 hv.2, cl_true, bd_eq, Bool.false_or]
    have key : ∀ n, IsI s n → n = v := fun n hn => by
      have := (no n hn).symm.trans hc
      injection this
    cases he : Lib.itoa v == s
    · rw [Bool.not_false, show (true && (true == false)) = false from rfl, cl_false, bd_eq, Bool.true_or, cond_true]
      refine ⟨_, rfl, .inr ⟨fun n hn => ?_, rfl⟩⟩
      obtain rfl := key n hn
      rw [hn.1, beq_self_eq_true] at he
      cases he
    · rw [Bool.not_true, show (true && (false == false)) = true from rfl, show M_impl_within fu v (-999999999) 999999999 = some (decide (-999999999 ≤ v) && decide (v ≤ 999999999)) from rfl, cl_true, bd_eq, Bool.false_or]
      cases hw : decide (-999999999 ≤ v) && decide (v ≤ 999999999)
      · rw [Bool.not_false, cond_true]
        refine ⟨_, rfl, .inr ⟨fun n hn => ?_, rfl⟩⟩
        obtain rfl := key n hn
        rw [decide_eq_true hn.2.1, decide_eq_true hn.2.2] at hw
        cases hw
      · rw [Bool.not_true, cond_false]
        rw [Bool.and_eq_true, decide_eq_true_eq, decide_eq_true_eq] at hw
        exact ⟨_, rfl, .inl ⟨v, ⟨by simpa using he, hw.1, hw.2⟩, rfl⟩⟩
  | _ =>
    have e : atoiR s = (0, true) := by unfold atoiR; rw [hc]
    rw [e]
    exact bad 0 fun n hn => by rw [no n hn] at hc; cases hc
end Go.Proofs.YtpneepiboheldaaDoor
/- Plain words: lists in order. No program in sight. No statement of the seat is proved here. -/
namespace Go.Proofs.YtpneepiboheldaaDoor
open Go.RowKit
set_option linter.unusedVariables false

/-- a strict total order -/
structure Sto {α : Type} (lt : α → α → Bool) : Prop where
  irr : ∀ a, lt a a = false
  tr : ∀ a b c, lt a b = true → lt b c = true → lt a c = true
  tri : ∀ a b, lt a b = false → lt b a = false → a = b
section
variable {α : Type} {lt : α → α → Bool}
theorem Sto.asy (S : Sto lt) {a b : α} (h : lt a b = true) : lt b a = false := by
  cases hb : lt b a
  · rfl
  · have := S.tr a b a h hb
    rw [S.irr] at this
    cases this
abbrev SortedS (lt : α → α → Bool) (l : List α) : Prop := l.Pairwise fun a b => lt a b = true
abbrev SortedW (lt : α → α → Bool) (l : List α) : Prop := l.Pairwise fun a b => lt b a = false
theorem SortedS.w (S : Sto lt) {l : List α} (h : SortedS lt l) : SortedW lt l := h.imp fun h => S.asy h
end
end Go.Proofs.YtpneepiboheldaaDoor
/- Plain: sets of strings as sorted lists, program and reference. No statement of the seat is proved here. -/
namespace Go.Proofs.YtpneepiboheldaaDoor
open Go.RowKit
set_option linter.unusedVariables false
set_option linter.unusedSimpArgs false

theorem subL_take {α : Type} (xs : List α) (k : Nat) : subL xs 0 (k : Int) = xs.take k := by simp [subL]
theorem subL_drop {α : Type} (xs : List α) (k : Nat) : subL xs (k : Int) (xs.length : Int) = xs.drop k := by
  unfold subL
  rw [Int.toNat_natCast, Int.toNat_natCast]
  exact List.take_of_length_le (by simp)
theorem subR_k {α : Type} {xs : List α} {k : Nat} (h : k ≤ xs.length) : subR 0 (k : Int) xs.length = true := subR_iff.2 ⟨by omega, by omega, by omega⟩
theorem subR_d {α : Type} {xs : List α} {k : Nat} (h : k ≤ xs.length) : subR (k : Int) (xs.length : Int) xs.length = true := subR_iff.2 ⟨by omega, by omega, by omega⟩
end Go.Proofs.YtpneepiboheldaaDoor
/- Plain: what the law ParseRules asks: splitting, tests read back. No statement of the seat is proved here. -/
namespace Go.Proofs.YtpneepiboheldaaDoor
open Go.RowKit
set_option linter.unusedVariables false
set_option linter.unusedSimpArgs false

/-! ### letters -/
theorem feat_all {p : Nat → List UInt8 → Prop} (h0 : p 0 [110, 97, 109, 101]) (h1 : p 1 [116, 111, 107, 101, 110, 115]) (h2 : p 2 [115, 111, 117, 110, 100]) (h3 : p 3 [99, 105, 116, 121]) (h4 : p 4 [121, 101, 97, 114]) (h5 : p 5 [112, 104, 111, 110, 101]) (i : Nat) (hi : i < 6) : p i (gtD featL (i : Int)) := by
  match i, hi with
  | 0, _ => exact h0
  | 1, _ => exact h1
  | 2, _ => exact h2
  | 3, _ => exact h3
  | 4, _ => exact h4
  | 5, _ => exact h5
theorem name_ch {i : Nat} (hi : i < 6) : ∀ c ∈ gtD featL (i : Int), 97 ≤ c.toNat :=
  feat_all (p := fun _ l => ∀ c ∈ l, 97 ≤ c.toNat) (by decide) (by decide) (by decide) (by decide) (by decide) (by decide) i hi
theorem name_ne {i : Nat} (hi : i < 6) : gtD featL (i : Int) ≠ [] :=
  feat_all (p := fun _ l => l ≠ []) (by decide) (by decide) (by decide) (by decide) (by decide) (by decide) i hi
theorem name_hd {i m : Nat} (hi : i < 6) (hm : m < 6) (h : i ≠ m) : (gtD featL (i : Int)).head? ≠ (gtD featL (m : Int)).head? := by
  have key : ∀ a b : Fin 6, a.val ≠ b.val → (featL.getD a.val default).head? ≠ (featL.getD b.val default).head? := by decide
  exact key ⟨i, hi⟩ ⟨m, hm⟩ h
theorem take_ne {a b r : List UInt8} (ha : a ≠ []) (hb : b ≠ []) (h : a.head? ≠ b.head?) : ((a ++ r).take b.length == b) = false := by
  cases a with
  | nil => exact (ha rfl).elim
  | cons c a =>
    cases b with
    | nil => exact (hb rfl).elim
    | cons d b =>
      have hcd : ¬ c = d := fun e => h (by simp [e])
      rw [beq_eq_false_iff_ne]
      intro e
      simp at e
      exact hcd e.1
theorem not_in {l : List UInt8} {n : Nat} (h : ∀ c ∈ l, n ≤ c.toNat) {d : UInt8} (hd : d.toNat < n) : d ∉ l := fun hm => by have := h d hm; omega
theorem itoa_ch {n : Int} (h : 0 ≤ n) : ∀ c ∈ Lib.itoa n, 48 ≤ c.toNat ∧ c.toNat ≤ 57 := by
  rw [itoa_pos h]
  exact dec_dig _
theorem itoa_ne {n : Int} (h : 0 ≤ n) : Lib.itoa n ≠ [] := by
  rw [itoa_pos h]
  exact dec_ne _
def TstOK (t : TTst) : Prop := (0 ≤ t.1 ∧ t.1 ≤ 5) ∧ 1 ≤ t.2.1 ∧ t.2.1 ≤ 1000
theorem testT_ch {t : TTst} (h : TstOK t) : ∀ c ∈ testT t, 48 ≤ c.toNat := by
  obtain ⟨i, e⟩ : ∃ i : Nat, t.1 = i := ⟨t.1.toNat, by have := h.1; omega⟩
  have hi : i < 6 := by have := h.1; omega
  intro c hc
  unfold testT at hc
  rcases List.mem_append.1 hc with hc | hc
  · rcases List.mem_append.1 hc with hc | hc
    · rw [e] at hc
      have := name_ch hi c hc
      omega
    · cases hb : t.2.2
      · rw [hb] at hc
        exact (show ∀ c ∈ ([62, 61] : List UInt8), 48 ≤ c.toNat by decide) c hc
      · rw [hb] at hc
        exact (show ∀ c ∈ ([60] : List UInt8), 48 ≤ c.toNat by decide) c hc
  · exact (itoa_ch (by have := h.2; omega) c hc).1
theorem jn_mem {sep : List UInt8} : ∀ {xs : List (List UInt8)} {c : UInt8}, c ∈ jn sep xs → c ∈ sep ∨ ∃ x ∈ xs, c ∈ x
  | [], c, h => by simp [jn] at h
  | x :: xs, c, h => by
    rw [jn, List.mem_append] at h
    rcases h with h | h
    · exact .inr ⟨x, List.mem_cons_self .., h⟩
    · obtain ⟨z, hz, hc⟩ := List.mem_flatten.1 h
      obtain ⟨y, hy, rfl⟩ := List.mem_map.1 hz
      rcases List.mem_append.1 hc with hc | hc
      · exact .inl hc
      · exact .inr ⟨y, List.mem_cons_of_mem _ hy, hc⟩
theorem ruleT_ch {l : List TTst} (h : ∀ t ∈ l, TstOK t) : ∀ c ∈ ruleT l, 44 ≤ c.toNat := by
  intro c hc
  unfold ruleT at hc
  rcases jn_mem hc with hc | ⟨x, hx, hc⟩
  · exact (show ∀ c ∈ ([44] : List UInt8), 44 ≤ c.toNat by decide) c hc
  · obtain ⟨t, ht, rfl⟩ := List.mem_map.1 hx
    have := testT_ch (h t ht) c hc
    omega
/-! ### instances of a text -/
theorem idx_hit {x s t : List UInt8} {c : UInt8} (h : c ∉ x) : Lib.index (x ++ (c :: t) ++ s) (c :: t) = (x.length : Int) := by
  refine Lib.index_first (i := x.length) (by simp) ?_ fun j hj => ?_
  · unfold Lib.occAt
    rw [List.append_assoc, List.drop_left]
    exact List.isPrefixOf_iff_prefix.2 (List.prefix_append _ _)
  · cases ho : Lib.occAt (x ++ (c :: t) ++ s) (c :: t) j
    · rfl
    · have := Lib.occAt_head rfl ho
      rw [List.append_assoc, List.getElem?_append_left hj] at this
      exact absurd (List.mem_of_getElem? this) h
theorem idx_miss {x t : List UInt8} {c : UInt8} (h : c ∉ x) : Lib.index x (c :: t) = -1 := by
  refine Lib.index_none fun j hj => ?_
  cases ho : Lib.occAt x (c :: t) j
  · rfl
  · exact absurd (List.mem_of_getElem? (Lib.occAt_head rfl ho)) h
theorem cut_hit {x s t : List UInt8} {c : UInt8} (h : c ∉ x) : Lib.cut (x ++ (c :: t) ++ s) (c :: t) = (x, s, true) := by
  unfold Lib.cut
  rw [idx_hit h, if_pos (by omega), Int.toNat_natCast, List.append_assoc, List.take_left, ← List.append_assoc, show x.length + (c :: t).length = (x ++ c :: t).length by simp, List.drop_left]
theorem cut_miss {x t : List UInt8} {c : UInt8} (h : c ∉ x) : Lib.cut x (c :: t) = (x, [], false) := by
  unfold Lib.cut
  rw [idx_miss h, if_neg (by omega)]
theorem cut_le1 (s sep : List UInt8) : (Lib.cut s sep).2.1.length ≤ s.length := by
  unfold Lib.cut
  split
  · simp only [List.length_drop]; omega
  · simp
abbrev sepR : List UInt8 := [32, 111, 114, 32]
def sp (s : List UInt8) : List (List UInt8) := Lib.splitK sepR 0 (Lib.count s sepR) s
theorem split4_t {fu : Nat} {s : List UInt8} (hs : s.length ≤ 1048576) : M_split fu s sepR = some (sp s) := by
  unfold M_split splitM
  rw [ck_t (by simp; omega), Lib.splitB_data]
  rfl
theorem sp_miss {s : List UInt8} (h : Lib.index s sepR = -1) : sp s = [s] := by
  unfold sp
  rw [Lib.count_miss h]
  rfl
theorem sp_hit {s : List UInt8} {i : Nat} (h : Lib.index s sepR = i) : sp s = s.take i :: sp (s.drop (i + 4)) := by
  unfold sp
  rw [Lib.count_hit (by decide) h, Nat.add_comm, Lib.splitK, h, if_neg (by simp), Int.toNat_natCast]
  rfl
theorem sp_jn : ∀ (x : List UInt8) (xs : List (List UInt8)), (∀ y ∈ x :: xs, (32 : UInt8) ∉ y) → sp (jn sepR (x :: xs)) = x :: xs
  | x, [], h => by
    rw [jn_one]
    exact sp_miss (idx_miss (h x (List.mem_cons_self ..)))
  | x, y :: ys, h => by
    have e : jn sepR (x :: y :: ys) = x ++ sepR ++ jn sepR (y :: ys) := by simp [jn]
    have hi : Lib.index (x ++ sepR ++ jn sepR (y :: ys)) sepR = (x.length : Int) := idx_hit (h x (List.mem_cons_self ..))
    rw [e, sp_hit hi, show x.length + 4 = (x ++ sepR).length by simp, List.drop_left, sp_jn y ys fun z hz => h z (List.mem_cons_of_mem _ hz), List.append_assoc, List.take_left]
theorem splitK_few : ∀ (k : Nat) (s : List UInt8), (Lib.splitK sepR 0 k s).length * 4 ≤ s.length + 4 ∧ ∀ x ∈ Lib.splitK sepR 0 k s, x.length ≤ s.length
  | 0, s => by
    rw [Lib.splitK]
    exact ⟨by simp, fun x hx => by rw [List.mem_singleton.1 hx]; exact Nat.le_refl _⟩
  | k + 1, s => by
    rw [Lib.splitK]
    by_cases h : Lib.index s sepR = -1
    · rw [if_pos (by simp [h])]
      exact ⟨by simp, fun x hx => by rw [List.mem_singleton.1 hx]; exact Nat.le_refl _⟩
    · have h0 := Lib.index_ge s sepR
      have hr := Lib.index_room s sepR (by omega)
      obtain ⟨ih1, ih2⟩ := splitK_few k (s.drop ((Lib.index s sepR).toNat + sepR.length))
      rw [List.length_drop] at ih1
      have h4 : sepR.length = 4 := rfl
      rw [if_neg (by simpa using h)]
      refine ⟨by rw [List.length_cons]; omega, fun x hx => ?_⟩
      rcases List.mem_cons.1 hx with rfl | hx
      · rw [List.length_take]; omega
      · have := ih2 x hx
        rw [List.length_drop] at this
        omega
/-! ### a test, the program's way -/
theorem index_s {fu : Nat} {l : List (List UInt8)} {x : List UInt8} (hl : l.length ≤ 1000) (hf : 1048577 ≤ fu) : M_slices_Index_string_string fu l x = some (match ixI 0 (l.map fun y => x == y) with | some j => (j : Int) | none => -1) := by
  unfold M_slices_Index_string_string
  have h := loop_ix (xs := l) (p := fun y => x == y) (L := M_slices_Index_string_string_L0 fu l x) (fun k i y hy => by
    have hi := at_lt hy
    rw [M_slices_Index_string_string_L0, lt_t hi, cond_true, ck_t (inR_t hi), gtD_get hy, ck_t (i64B_n (by omega)), succ_i]) (fun k => by rw [M_slices_Index_string_string_L0, lt_f]; rfl) (show l.length < fu by omega)
  rw [h, cl_true]
  cases ixI 0 (l.map fun y => x == y) <;> rfl
theorem ix_name {i : Nat} (hi : i < 6) : ixI 0 (featL.map fun y => gtD featL (i : Int) == y) = some i :=
  feat_all (p := fun i l => ixI 0 (featL.map fun y => l == y) = some i) (by decide) (by decide) (by decide) (by decide) (by decide) (by decide) i hi
theorem featL_len : featL.length ≤ 1000 := by decide
theorem parseT_all {fu : Nat} {x : List UInt8} (hf : 1048577 ≤ fu) (hx : x.length ≤ 1048576) : ∃ r, M_impl_parseTest fu x = some r ∧ (x = [] → r.2 = false) := by
  unfold M_impl_parseTest
  rw [cutM_t hx, cl_true]
  have h1 := cut_le1 x [62, 61]
  have h2 := cut_le1 x [60]
  cases hc : (Lib.cut x [62, 61]).2.2
  · obtain ⟨r, hr, hd⟩ := implPI_t (fu := fu) (s := (Lib.cut x [60]).2.1) (by omega)
    rw [Bool.not_false, cond_true, cutM_t hx, cl_true, hr, cl_true, index_s featL_len hf, cl_true, bd_eq]
    refine ⟨_, rfl, fun e => ?_⟩
    subst e
    have e0 : (Lib.cut [] [60]).2.1 = [] := rfl
    rw [e0] at hd
    rcases hd with ⟨n, hn, _⟩ | ⟨_, rfl⟩
    · have := (isI_scan hn).2.1
      exact absurd this (by decide)
    · rfl
  · obtain ⟨r, hr, hd⟩ := implPI_t (fu := fu) (s := (Lib.cut x [62, 61]).2.1) (by omega)
    rw [Bool.not_true, cond_false, hr, cl_true, index_s featL_len hf, cl_true, bd_eq]
    refine ⟨_, rfl, fun e => ?_⟩
    subst e
    exact absurd hc (by decide)
theorem rdI_itoa {n : Int} {r : Int × Bool} (h : RdI (Lib.itoa n) r) (h0 : 0 ≤ n) (h1 : n ≤ 1000) : r = (n, true) :=
  h.one (.inl ⟨n, ⟨rfl, by omega, by omega⟩, rfl⟩)
theorem parseT_t {fu : Nat} {t : TTst} (hf : 1048577 ≤ fu) (h : TstOK t) : M_impl_parseTest fu (testT t) = some (t, true) := by
  have hl := testT_len h
  obtain ⟨n, thr, below⟩ := t
  obtain ⟨i, e⟩ : ∃ i : Nat, n = i := ⟨n.toNat, by have := h.1; simp only at this; omega⟩
  subst e
  have hi : i < 6 := by have := h.1.2; simp only at this; omega
  have h1 : 1 ≤ thr ∧ thr ≤ 1000 := h.2
  have hn := name_ch hi
  have e5 := itoa_le (n := thr) (by omega) (by omega)
  obtain ⟨r, hr, hd⟩ := implPI_t (fu := fu) (s := Lib.itoa thr) (by omega)
  obtain rfl := rdI_itoa hd (by omega) h1.2
  unfold M_impl_parseTest
  rw [cutM_t (by omega), cl_true]
  cases below
  · have ec : Lib.cut (testT ((i : Int), thr, false)) [62, 61] = (gtD featL (i : Int), Lib.itoa thr, true) := cut_hit (not_in hn (by decide))
    rw [ec, Bool.not_true, cond_false, hr, cl_true, index_s featL_len hf, cl_true, ix_name hi, bd_eq]
    simp
  · have h62 : (62 : UInt8) ∉ testT ((i : Int), thr, true) := fun hm => by
      rcases List.mem_append.1 hm with hm | hm
      · rcases List.mem_append.1 hm with hm | hm
        · exact absurd (hn _ hm) (by decide)
        · exact absurd (show (62 : UInt8) ∈ ([60] : List UInt8) from hm) (by decide)
      · exact absurd (itoa_ch (n := thr) (by omega) _ (show (62 : UInt8) ∈ Lib.itoa thr from hm)).2 (by decide)
    have ec : Lib.cut (testT ((i : Int), thr, true)) [60] = (gtD featL (i : Int), Lib.itoa thr, true) := cut_hit (not_in hn (by decide))
    rw [cut_miss h62, Bool.not_false, cond_true, cutM_t (by omega), cl_true, ec, hr, cl_true, index_s featL_len hf, cl_true, ix_name hi, bd_eq]
    simp
/-! ### a test, the reference's way -/
def nmO (fu : Nat) (x : List UInt8) (i : Int) : Option TTst :=
  bif decide ((gtD featL i).length < x.length) && (x.take (gtD featL i).length == gtD featL i) then (
    bif bAt (x.drop (gtD featL i).length) 0 == 60 then some (i, ((M_spec_ParseInt fu ((x.drop (gtD featL i).length).drop 1)).getD default).1, true)
    else bif decide (2 < (x.drop (gtD featL i).length).length) && ((x.drop (gtD featL i).length).take 2 == [62, 61]) then some (i, ((M_spec_ParseInt fu ((x.drop (gtD featL i).length).drop 2)).getD default).1, false) else none)
  else none
theorem loop_someS {α β ρ σ : Type} {xs : List α} {V : α → Option β} {f : β → ρ} {e : σ} {L : Nat → Int → Option (Ex ρ σ)}
    (hs : ∀ k (i : Nat) x, xs[i]? = some x → L (k + 1) (i : Int) = match V x with | some v => some (.ret (f v)) | none => L k ((i + 1 : Nat) : Int)) (he : ∀ k, L (k + 1) (xs.length : Int) = some (.go e)) {fu : Nat} (hf : xs.length < fu) :
    L fu (0 : Int) = some (match xs.findSome? V with | some v => .ret (f v) | none => .go e) := by
  have key : ∀ m i k, i + m = xs.length → m < k → L k ((i : Nat) : Int) = some (match (xs.drop i).findSome? V with | some v => .ret (f v) | none => .go e) := by
    intro m
    induction m with
    | zero =>
      intro i k hi hk
      obtain ⟨k, rfl⟩ : ∃ q, k = q + 1 := ⟨k - 1, by omega⟩
      obtain rfl : i = xs.length := by omega
      rw [he, List.drop_length]
      rfl
    | succ m ih =>
      intro i k hi hk
      obtain ⟨k, rfl⟩ : ∃ q, k = q + 1 := ⟨k - 1, by omega⟩
      have hx := List.getElem?_eq_getElem (show i < xs.length by omega)
      rw [hs k i _ hx, drop_cons hx, List.findSome?_cons]
      cases V xs[i]
      · exact ih (i + 1) k (by omega) (by omega)
      · rfl
  have := key xs.length 0 fu (by omega) hf
  rwa [show ((0 : Nat) : Int) = 0 from rfl, List.drop_zero] at this
def six0 : List Int := (List.range 6).map fun (j : Nat) => (j : Int)
theorem six0_at {i : Nat} {n : Int} (h : six0[i]? = some n) : i < 6 ∧ n = (i : Int) := by
  have hi : i < 6 := by have := at_lt h; simpa [six0] using this
  unfold six0 at h
  rw [List.getElem?_map, List.getElem?_range hi] at h
  exact ⟨hi, (Option.some.inj h).symm⟩
def tS (fu : Nat) (x : List UInt8) : TTst := match six0.findSome? (nmO fu x) with | some t => t | none => ((0 : Int), (0 : Int), false)
theorem lt_len {a b : Nat} : decide ((a : Int) < (b : Int)) = decide (a < b) := by
  by_cases h : a < b
  · rw [decide_eq_true h, decide_eq_true (by omega)]
  · rw [decide_eq_false h, decide_eq_false (by omega)]
theorem l14Test_t {fu : Nat} {x : List UInt8} (hf : 1048577 ≤ fu) (hx : x.length ≤ 1048576) : M_spec_l14Test fu x = some (tS fu x) := by
  unfold M_spec_l14Test tS
  have h := loop_someS (xs := six0) (V := nmO fu x) (f := fun t => t) (e := ((0 : Int), (0 : Int), false)) (L := fun k i => M_spec_l14Test_L0 fu x k i ((0 : Int), (0 : Int), false)) (fun k i n hn => by
    obtain ⟨hi, rfl⟩ := six0_at hn
    have hlen := feat_len (i : Int)
    show M_spec_l14Test_L0 fu x (k + 1) (i : Int) _ = _
    rw [M_spec_l14Test_L0, show decide ((i : Int) < (6 : Int)) = true from decide_eq_true (by omega), cond_true, specName_t (by omega) (by omega), cl_true]
    unfold nmO
    generalize hname : gtD featL (i : Int) = nm at hlen
    rw [lt_len]
    by_cases hlt : nm.length < x.length
    · rw [decide_eq_true hlt, subR_k (by omega), Bool.or_true, ck_tt, bd_eq, subL_take]
      cases hb : (x.take nm.length == nm)
      · rw [Bool.and_false, cond_false, cond_false, ck_t (i64B_n (by omega)), succ_i]
      · rw [Bool.and_true, cond_true, cond_true, ck_t (subR_d (by omega)), subL_drop]
        generalize hu : x.drop nm.length = u
        have hul : u.length = x.length - nm.length := by rw [← hu, List.length_drop]
        obtain ⟨r1, hr1, _⟩ := specPI_t (fu := fu) (s := u.drop 1) hf (by rw [List.length_drop]; omega)
        obtain ⟨r2, hr2, _⟩ := specPI_t (fu := fu) (s := u.drop 2) hf (by rw [List.length_drop]; omega)
        have e1 : subL u (1 : Int) (u.length : Int) = u.drop 1 := subL_drop u 1
        have e2 : subL u (2 : Int) (u.length : Int) = u.drop 2 := subL_drop u 2
        have e3 : subL u 0 (2 : Int) = u.take 2 := subL_take u 2
        rw [ck_t (inR_0 (by omega))]
        cases bAt u 0 == 60
        · rw [cond_false, cond_false, e3]
          by_cases h2 : 2 < u.length
          · rw [show decide ((2 : Int) < (u.length : Int)) = true from decide_eq_true (by omega), show subR 0 (2 : Int) u.length = true from subR_k (k := 2) (by omega), Bool.or_true, ck_tt, bd_eq, decide_eq_true h2]
            cases (u.take 2 == [62, 61])
            · rw [Bool.and_false, cond_false, cond_false, ck_t (i64B_n (by omega)), succ_i]
            · rw [Bool.and_true, cond_true, cond_true, ck_t (show subR (2 : Int) (u.length : Int) u.length = true from subR_d (k := 2) (by omega)), e2, hr2, cl_true]
              rfl
          · rw [show decide ((2 : Int) < (u.length : Int)) = false from decide_eq_false (by omega), decide_eq_false h2]
            show ck true _ = _
            rw [ck_tt, bd_eq, Bool.false_and, cond_false, cond_false, ck_t (i64B_n (by omega)), succ_i]
        · rw [cond_true, cond_true, ck_t (show subR (1 : Int) (u.length : Int) u.length = true from subR_d (k := 1) (by omega)), e1, hr1, cl_true]
          rfl
    · rw [decide_eq_false hlt]
      show ck true _ = _
      rw [ck_tt, bd_eq, Bool.false_and, Bool.false_and, cond_false, cond_false, ck_t (i64B_n (by omega)), succ_i]) (fun k => by
    show M_spec_l14Test_L0 fu x (k + 1) (6 : Int) _ = _
    rw [M_spec_l14Test_L0]
    rfl) (show six0.length < fu by have : six0.length = 6 := rfl; omega)
  have h' : M_spec_l14Test_L0 fu x fu (0 : Int) ((0 : Int), ((0 : Int), false)) = _ := h
  rw [h', cl_true]
  cases six0.findSome? (nmO fu x) <;> rfl
theorem findSome_at {α β : Type} {V : α → Option β} {b : β} : ∀ {xs : List α} {i : Nat} {x : α}, xs[i]? = some x → V x = some b → (∀ j y, j < i → xs[j]? = some y → V y = none) → xs.findSome? V = some b
  | [], i, x, h, _, _ => by simp at h
  | z :: xs, 0, x, h, hV, _ => by
    simp at h
    subst h
    rw [List.findSome?_cons, hV]
  | z :: xs, i + 1, x, h, hV, hn => by
    rw [List.findSome?_cons, hn 0 z (by omega) rfl]
    exact findSome_at (i := i) h hV fun j y hj hy => hn (j + 1) y (by omega) hy
theorem tS_t {fu : Nat} {t : TTst} (hf : 1048577 ≤ fu) (h : TstOK t) : tS fu (testT t) = t := by
  obtain ⟨n, thr, below⟩ := t
  obtain ⟨i, e⟩ : ∃ i : Nat, n = i := ⟨n.toNat, by have := h.1; simp only at this; omega⟩
  subst e
  have hi : i < 6 := by have := h.1.2; simp only at this; omega
  have h1 : 1 ≤ thr ∧ thr ≤ 1000 := h.2
  have e5 := itoa_le (n := thr) (by omega) (by omega)
  obtain ⟨r, hr, hd⟩ := specPI_t (fu := fu) (s := Lib.itoa thr) hf (by omega)
  obtain rfl := rdI_itoa hd (by omega) h1.2
  have hne := List.length_pos_iff.2 (itoa_ne (n := thr) (by omega))
  have hat : six0[i]? = some (i : Int) := by
    unfold six0
    rw [List.getElem?_map, List.getElem?_range hi]
    rfl
  have key : six0.findSome? (nmO fu (testT ((i : Int), thr, below))) = some ((i : Int), thr, below) := by
    refine findSome_at hat ?_ fun j y hj hy => ?_
    · unfold nmO testT
      cases below
      · have e1 : (gtD featL (i : Int) ++ ([62, 61] : List UInt8) ++ Lib.itoa thr).take (gtD featL (i : Int)).length = gtD featL (i : Int) := by rw [List.append_assoc, List.take_left]
        have e2 : (gtD featL (i : Int) ++ ([62, 61] : List UInt8) ++ Lib.itoa thr).drop (gtD featL (i : Int)).length = 62 :: 61 :: Lib.itoa thr := by rw [List.append_assoc, List.drop_left]; rfl
        simp only [cond_false, e1, e2, beq_self_eq_true, Bool.and_true]
        rw [decide_eq_true (by simp), cond_true, show (bAt (62 :: 61 :: Lib.itoa thr) 0 == 60) = false from rfl, cond_false, decide_eq_true (by simp; omega)]
        show (bif true && (([62, 61] : List UInt8) == [62, 61]) then some (_, ((M_spec_ParseInt fu (Lib.itoa thr)).getD default).1, false) else none) = _
        rw [hr]
        rfl
      · have e1 : (gtD featL (i : Int) ++ ([60] : List UInt8) ++ Lib.itoa thr).take (gtD featL (i : Int)).length = gtD featL (i : Int) := by rw [List.append_assoc, List.take_left]
        have e2 : (gtD featL (i : Int) ++ ([60] : List UInt8) ++ Lib.itoa thr).drop (gtD featL (i : Int)).length = 60 :: Lib.itoa thr := by rw [List.append_assoc, List.drop_left]; rfl
        simp only [cond_true, e1, e2, beq_self_eq_true, Bool.and_true]
        rw [decide_eq_true (by simp), cond_true, show (bAt (60 :: Lib.itoa thr) 0 == 60) = true from rfl, cond_true]
        show some (_, ((M_spec_ParseInt fu (Lib.itoa thr)).getD default).1, true) = _
        rw [hr]
        rfl
    · obtain ⟨hj6, rfl⟩ := six0_at hy
      unfold nmO testT
      rw [List.append_assoc, take_ne (name_ne hi) (name_ne hj6) (name_hd hi hj6 (by omega)), Bool.and_false]
      rfl
  unfold tS
  rw [key]
end Go.Proofs.YtpneepiboheldaaDoor
/- Plain: what the law ParseRules asks: both parsers undo the format. No statement of the seat is proved here. -/
namespace Go.Proofs.YtpneepiboheldaaDoor
open Go.RowKit
set_option linter.unusedVariables false
set_option linter.unusedSimpArgs false

def frT (R : List (List TTst)) : List UInt8 := jn sepR (R.map ruleT)
def fr (R : List (List TTst)) : List UInt8 := bif rsB R then frT R else []
/-! ### the program's loops -/
theorem loop_coll {α β ρ σ : Type} {xs : List α} {p : α → Bool} {f : α → β} {r : ρ} {e : List β → σ} {L : Nat → Int → List β → Option (Ex ρ σ)}
    (hs : ∀ k (i : Nat) acc x, xs[i]? = some x → acc.length = i → L (k + 1) (i : Int) acc = bif p x then L k ((i + 1 : Nat) : Int) (acc ++ [f x]) else some (.ret r))
    (he : ∀ k acc, L (k + 1) (xs.length : Int) acc = some (.go (e acc))) {fu : Nat} (hf : xs.length < fu ∨ (xs.length ≤ fu ∧ ∃ x ∈ xs, p x = false)) :
    L fu (0 : Int) [] = some (bif xs.all p then .go (e (xs.map f)) else .ret r) := by
  have key : ∀ m i k acc, i + m = xs.length → (m < k ∨ (m ≤ k ∧ ∃ x ∈ xs.drop i, p x = false)) → acc.length = i → L k ((i : Nat) : Int) acc = some (bif (xs.drop i).all p then .go (e (acc ++ (xs.drop i).map f)) else .ret r) := by
    intro m
    induction m with
    | zero =>
      intro i k acc hi hk ha
      obtain rfl : i = xs.length := by omega
      rw [List.drop_length] at hk ⊢
      rcases hk with hk | ⟨_, x, hx, _⟩
      · obtain ⟨k, rfl⟩ : ∃ q, k = q + 1 := ⟨k - 1, by omega⟩
        rw [he, List.all_nil, List.map_nil, List.append_nil]
        rfl
      · cases hx
    | succ m ih =>
      intro i k acc hi hk ha
      obtain ⟨k, rfl⟩ : ∃ q, k = q + 1 := ⟨k - 1, by rcases hk with hk | ⟨hk, _⟩ <;> omega⟩
      have hx := List.getElem?_eq_getElem (show i < xs.length by omega)
      rw [hs k i acc _ hx ha, drop_cons hx, List.all_cons, List.map_cons]
      cases hp : p xs[i]
      · rfl
      · rw [cond_true, Bool.true_and, ih (i + 1) k (acc ++ [f xs[i]]) (by omega) ?_ (by rw [List.length_append, List.length_singleton, ha]), List.append_assoc]
        · rfl
        · rcases hk with hk | ⟨hk, x, hm, hpx⟩
          · exact .inl (by omega)
          · refine .inr ⟨by omega, x, ?_, hpx⟩
            rw [drop_cons hx] at hm
            rcases List.mem_cons.1 hm with rfl | hm
            · rw [hp] at hpx; cases hpx
            · exact hm
  have := key xs.length 0 fu [] (by omega) (by rw [List.drop_zero]; exact hf) rfl
  rwa [show ((0 : Nat) : Int) = 0 from rfl, List.drop_zero, List.nil_append] at this
def pT (fu : Nat) (x : List UInt8) : TTst × Bool := (M_impl_parseTest fu x).getD default
theorem pT_t {fu : Nat} {x : List UInt8} (hf : 1048577 ≤ fu) (hx : x.length ≤ 1048576) : M_impl_parseTest fu x = some (pT fu x) := by
  obtain ⟨r, hr, _⟩ := parseT_all (fu := fu) hf hx
  unfold pT
  rw [hr]
  rfl
theorem pT_nil {fu : Nat} (hf : 1048577 ≤ fu) : (pT fu []).2 = false := by
  obtain ⟨r, hr, h⟩ := parseT_all (fu := fu) (x := []) hf (Nat.zero_le _)
  unfold pT
  rw [hr]
  exact h rfl
def okL (fu : Nat) (q : List UInt8) : Bool := (spC 44 q).all fun x => (pT fu x).2
def rul (fu : Nat) (q : List UInt8) : List TTst := (spC 44 q).map fun x => (pT fu x).1
theorem okL_len {fu : Nat} {q : List UInt8} (hf : 1048577 ≤ fu) (h : okL fu q = true) : 2 * (spC 44 q).length ≤ q.length + 1 := by
  refine spC_few 44 q fun x hx e => ?_
  subst e
  have := List.all_eq_true.1 h _ hx
  rw [pT_nil hf] at this
  cases this
theorem implL1_t {fu : Nat} {q : List UInt8} {y : List (List TTst)} (hf : 1048577 ≤ fu) (hq : q.length ≤ 1048576) : M_impl_ParseRules_L1 fu (spC 44 q) fu (0 : Int) y [] = some (bif okL fu q then .go (y, rul fu q) else .ret ([], false)) := by
  have hl := spC_len 44 q
  exact loop_coll (xs := spC 44 q) (p := fun x => (pT fu x).2) (f := fun x => (pT fu x).1) (r := (([] : List (List TTst)), false)) (e := fun acc => (y, acc)) (L := fun k i acc => M_impl_ParseRules_L1 fu (spC 44 q) k i y acc) (fun k i acc x hx ha => by
    have hi := at_lt hx
    have hxl := spC_mem 44 q x (at_mem hx)
    show M_impl_ParseRules_L1 fu (spC 44 q) (k + 1) (i : Int) y acc = _
    rw [M_impl_ParseRules_L1, lt_t hi, cond_true, ck_t (inR_t hi), gtD_get hx, pT_t hf (by omega), cl_true]
    cases (pT fu x).2
    · rfl
    · rw [Bool.not_true, cond_false, cond_true, ck_t (lenOK_t (by rw [List.length_singleton]; omega)), ck_t (i64B_n (by omega)), succ_i]) (fun k acc => by
    show M_impl_ParseRules_L1 fu (spC 44 q) (k + 1) ((spC 44 q).length : Int) y acc = _
    rw [M_impl_ParseRules_L1, lt_f]
    rfl) (by
    by_cases h : (spC 44 q).length < fu
    · exact .inl h
    · refine .inr ⟨by omega, ?_⟩
      refine Classical.byContradiction fun hn => ?_
      have := spC_few 44 q fun x hx e => by
        subst e
        exact hn ⟨[], hx, pT_nil hf⟩
      omega)
theorem implL0_t {fu : Nat} {s : List UInt8} (hf : 1048577 ≤ fu) (hs : s.length ≤ 1048576) : M_impl_ParseRules_L0 fu (sp s) fu (0 : Int) [] [] = some (bif (sp s).all (okL fu) then .go ([], (sp s).map (rul fu)) else .ret ([], false)) := by
  obtain ⟨h1, h2⟩ := splitK_few (Lib.count s sepR) s
  have h1 : (sp s).length * 4 ≤ s.length + 4 := h1
  exact loop_coll (xs := sp s) (p := okL fu) (f := rul fu) (r := (([] : List (List TTst)), false)) (e := fun acc => (([] : List (List TTst)), acc)) (L := fun k i acc => M_impl_ParseRules_L0 fu (sp s) k i [] acc) (fun k i acc q hx ha => by
    have hi := at_lt hx
    have hql : q.length ≤ s.length := h2 q (at_mem hx)
    show M_impl_ParseRules_L0 fu (sp s) (k + 1) (i : Int) [] acc = _
    rw [M_impl_ParseRules_L0, lt_t hi, cond_true, ck_t (inR_t hi), gtD_get hx, split_t (by omega), cl_true, implL1_t hf (by omega), cl_true]
    cases okL fu q
    · rfl
    · rw [cond_true, exM_go', ck_t (lenOK_t (by omega)), ck_t (i64B_n (by omega)), succ_i, cond_true]) (fun k acc => by
    show M_impl_ParseRules_L0 fu (sp s) (k + 1) ((sp s).length : Int) [] acc = _
    rw [M_impl_ParseRules_L0, lt_f]
    rfl) (.inl (by omega))
theorem rul_t {fu : Nat} {l : List TTst} (hf : 1048577 ≤ fu) (h : ∀ t ∈ l, TstOK t) (hl : l ≠ []) : okL fu (ruleT l) = true ∧ rul fu (ruleT l) = l ∧ spC 44 (ruleT l) = l.map testT := by
  have hno : ∀ y ∈ l.map testT, (44 : UInt8) ∉ y := fun y hy => by
    obtain ⟨t, ht, rfl⟩ := List.mem_map.1 hy
    exact not_in (testT_ch (h t ht)) (by decide)
  have e : spC 44 (ruleT l) = l.map testT := by
    cases l with
    | nil => exact (hl rfl).elim
    | cons t l => exact spC_jn hno
  have hp : ∀ t ∈ l, pT fu (testT t) = (t, true) := fun t ht => by
    unfold pT
    rw [parseT_t hf (h t ht)]
    rfl
  refine ⟨?_, ?_, e⟩
  · unfold okL
    rw [e, List.all_map]
    refine List.all_eq_true.2 fun t ht => ?_
    show (pT fu (testT t)).2 = true
    rw [hp t ht]
  · unfold rul
    rw [e, List.map_map]
    refine (List.map_congr_left fun t ht => ?_).trans (List.map_id l)
    show (pT fu (testT t)).1 = id t
    rw [hp t ht]
    rfl
theorem rs_ok2 {R : List (List TTst)} (h : rsB R = true) : 1 ≤ R.length ∧ R.length ≤ 3 ∧ ∀ l ∈ R, (l ≠ [] ∧ l.length ≤ 3) ∧ ∀ t ∈ l, TstOK t := by
  obtain ⟨h1, h2⟩ := rsB_len h
  unfold rsB at h
  rw [Bool.and_eq_true, inI_iff] at h
  obtain ⟨⟨h3, _⟩, h4⟩ := h
  refine ⟨by omega, h1, fun l hl => ⟨⟨fun e => ?_, (h2 l hl).1⟩, (h2 l hl).2⟩⟩
  subst e
  have : (R.any fun l => !(ruleB l)) = true := List.any_eq_true.2 ⟨[], hl, rfl⟩
  rw [this] at h4
  cases h4
theorem ruleT_no {l : List TTst} (h : ∀ t ∈ l, TstOK t) : (32 : UInt8) ∉ ruleT l := not_in (ruleT_ch h) (by decide)
theorem frT_ne {R : List (List TTst)} (h : rsB R = true) : frT R ≠ [] := by
  obtain ⟨h1, _, h3⟩ := rs_ok2 h
  match R, h1, h3 with
  | l :: R, _, h3 =>
    obtain ⟨⟨hl, _⟩, ht⟩ := h3 l (List.mem_cons_self ..)
    match l, hl, ht with
    | t :: l, _, ht =>
      have hk := ht t (List.mem_cons_self ..)
      obtain ⟨i, e⟩ : ∃ i : Nat, t.1 = i := ⟨t.1.toNat, by have := hk.1; omega⟩
      have hn := name_ne (i := i) (by have := hk.1; omega)
      unfold frT ruleT
      rw [List.map_cons, List.map_cons, jn, jn]
      unfold testT
      rw [e]
      intro h
      simp at h
      exact hn h.1
/-- what both parsers keep -/
structure PRk (s : List UInt8) (r : List (List TTst) × Bool) : Prop where
  no : r = ([], false) ∨ ∃ R, r = (R, true) ∧ fr R = s ∧ s ≠ []
  yes : ∀ R, rsB R = true → frT R = s → r = (R, true)
theorem fr_of {R : List (List TTst)} {s : List UInt8} (h : fr R = s) (hs : s ≠ []) : rsB R = true ∧ frT R = s := by
  unfold fr at h
  cases hv : rsB R
  · rw [hv] at h
    exact (hs h.symm).elim
  · rw [hv] at h
    exact ⟨rfl, h⟩
theorem PRk.one {s : List UInt8} {r q : List (List TTst) × Bool} (h : PRk s r) (k : PRk s q) : r = q := by
  rcases h.no with h1 | ⟨R, h1, h2, h3⟩
  · rcases k.no with k1 | ⟨Q, k1, k2, k3⟩
    · rw [h1, k1]
    · obtain ⟨a, b⟩ := fr_of k2 k3
      rw [h.yes Q a b, k1]
  · obtain ⟨a, b⟩ := fr_of h2 h3
    rw [h1, k.yes R a b]
theorem implPR_t {fu : Nat} {s : List UInt8} (hf : 1048577 ≤ fu) (hs : s.length ≤ 1048576) : ∃ r, M_impl_ParseRules fu s = some r ∧ PRk s r := by
  unfold M_impl_ParseRules
  obtain ⟨h1, h2⟩ := splitK_few (Lib.count s sepR) s
  have h1 : (sp s).length * 4 ≤ s.length + 4 := h1
  have h2 : ∀ x ∈ sp s, x.length ≤ s.length := h2
  rw [split4_t hs, cl_true, implL0_t hf hs, cl_true]
  have hval : ∀ R, rsB R = true → frT R = s → sp s = R.map ruleT ∧ (sp s).all (okL fu) = true ∧ (sp s).map (rul fu) = R := fun R hv e => by
    obtain ⟨k1, _, k3⟩ := rs_ok2 hv
    have e1 : sp s = R.map ruleT := by
      subst e
      unfold frT
      have hno : ∀ y ∈ R.map ruleT, (32 : UInt8) ∉ y := fun y hy => by
        obtain ⟨l, hl, rfl⟩ := List.mem_map.1 hy
        exact ruleT_no (k3 l hl).2
      cases R with
      | nil => simp at k1
      | cons l R => exact sp_jn _ _ hno
    refine ⟨e1, ?_, ?_⟩
    · rw [e1, List.all_map]
      exact List.all_eq_true.2 fun l hl => (rul_t hf (k3 l hl).2 (k3 l hl).1.1).1
    · rw [e1, List.map_map]
      exact (List.map_congr_left fun l hl => (rul_t hf (k3 l hl).2 (k3 l hl).1.1).2.1).trans (List.map_id R)
  cases hok : (sp s).all (okL fu)
  · refine ⟨_, rfl, .inl rfl, fun R hv e => ?_⟩
    rw [(hval R hv e).2.1] at hok
    cases hok
  · have hne : s ≠ [] := fun e => by
      subst e
      have e0 : sp [] = [[]] := sp_miss rfl
      rw [e0] at hok
      have : okL fu [] = true := by simpa using hok
      have h3 : (pT fu []).2 = true := by
        have := List.all_eq_true.1 this [] (by simp [spC])
        exact this
      rw [pT_nil hf] at h3
      cases h3
    have hR : RsOK ((sp s).map (rul fu)) := by
      refine ⟨by rw [List.length_map]; omega, fun l hl => ?_⟩
      obtain ⟨q, hq, rfl⟩ := List.mem_map.1 hl
      have := okL_len hf (List.all_eq_true.1 hok q hq)
      have := h2 q hq
      unfold rul
      rw [List.length_map]
      omega
    have efr : M_impl_FormatRules fu ((sp s).map (rul fu)) = some (fr ((sp s).map (rul fu))) := implFR_t hf hR
    rw [cond_true, exM_go', efr, cl_true]
    cases hb : (fr ((sp s).map (rul fu)) == s)
    · refine ⟨_, rfl, .inl rfl, fun R hv e => ?_⟩
      rw [(hval R hv e).2.2] at hb
      have : fr R = s := by unfold fr; rw [hv]; exact e
      rw [this] at hb
      simp at hb
    · refine ⟨_, rfl, .inr ⟨_, rfl, eq_of_beq hb, hne⟩, fun R hv e => ?_⟩
      show ((sp s).map (rul fu), true) = _
      rw [(hval R hv e).2.2]
/-! ### the reference's loops -/
theorem loop_takeN {α β : Type} {xs : List α} {N : Nat} {f : α → β} {L : Nat → Int → List β → Option (List β)}
    (hs : ∀ k (i : Nat) acc x, xs[i]? = some x → i < N → acc.length = i → L (k + 1) (i : Int) acc = L k ((i + 1 : Nat) : Int) (acc ++ [f x]))
    (he : ∀ k (i : Nat) acc, (i = xs.length ∨ i = N) → L (k + 1) (i : Int) acc = some acc) {fu : Nat} (hf : N < fu) : L fu (0 : Int) [] = some ((xs.take N).map f) := by
  have key : ∀ m i k acc, i + m = N → i ≤ xs.length → m < k → acc.length = i → L k ((i : Nat) : Int) acc = some (acc ++ ((xs.drop i).take m).map f) := by
    intro m
    induction m with
    | zero =>
      intro i k acc hi hl hk ha
      obtain ⟨k, rfl⟩ : ∃ q, k = q + 1 := ⟨k - 1, by omega⟩
      rw [he k i acc (.inr (by omega)), List.take_zero, List.map_nil, List.append_nil]
    | succ m ih =>
      intro i k acc hi hl hk ha
      obtain ⟨k, rfl⟩ : ∃ q, k = q + 1 := ⟨k - 1, by omega⟩
      by_cases hlt : i < xs.length
      · have hx := List.getElem?_eq_getElem hlt
        rw [hs k i acc _ hx (by omega) ha, ih (i + 1) k _ (by omega) (by omega) (by omega) (by rw [List.length_append, List.length_singleton, ha]), drop_cons hx, List.take_succ_cons, List.map_cons, List.append_assoc]
        rfl
      · rw [he k i acc (.inl (by omega)), List.drop_eq_nil_of_le (by omega), List.take_nil, List.map_nil, List.append_nil]
  have := key N 0 fu [] (by omega) (Nat.zero_le _) hf rfl
  rwa [show ((0 : Nat) : Int) = 0 from rfl, List.drop_zero, List.nil_append] at this
def rulS (fu : Nat) (q : List UInt8) : List TTst := ((spC 44 q).take 4).map (tS fu)
theorem specL1_t {fu : Nat} {q : List UInt8} (hf : 1048577 ≤ fu) (hq : q.length ≤ 1048576) : M_spec_ParseRules_L1 fu (spC 44 q) fu (0 : Int) [] = some (rulS fu q) := by
  refine loop_takeN (xs := spC 44 q) (N := 4) (f := tS fu) (L := M_spec_ParseRules_L1 fu (spC 44 q)) (fun k i acc x hx h4 ha => ?_) (fun k i acc h => ?_) (show 4 < fu by omega)
  · have hi := at_lt hx
    have hxl := spC_mem 44 q x (at_mem hx)
    rw [M_spec_ParseRules_L1, bd_eq, lt_t hi, decide_eq_true (show (i : Int) ≤ 3 by omega), Bool.and_self, cond_true, ck_t (inR_t hi), gtD_get hx, l14Test_t hf (by omega), cl_true, ck_t (lenOK_t (by rw [List.length_singleton]; omega)), ck_t (i64B_n (by omega)), succ_i]
  · have hc : (decide ((i : Int) < ((spC 44 q).length : Int)) && decide ((i : Int) ≤ 3)) = false := by
      rw [Bool.and_eq_false_imp, decide_eq_true_eq, decide_eq_false_iff_not]
      omega
    rw [M_spec_ParseRules_L1, bd_eq, hc]
    rfl
def goN {α σ : Type} (g : Nat → σ → α → σ) (xs : List α) : Nat → Nat → σ → σ
  | 0, _, s => s
  | m + 1, i, s => match xs[i]? with
    | some x => goN g xs m (i + 1) (g i s x)
    | none => s
theorem loop_goN {α σ : Type} {xs : List α} {N : Nat} {g : Nat → σ → α → σ} {Inv : Nat → σ → Prop} {L : Nat → Int → σ → Option σ}
    (hs : ∀ k (i : Nat) s x, xs[i]? = some x → i < N → Inv i s → L (k + 1) (i : Int) s = L k ((i + 1 : Nat) : Int) (g i s x)) (hI : ∀ (i : Nat) s x, xs[i]? = some x → Inv i s → Inv (i + 1) (g i s x))
    (he : ∀ k (i : Nat) s, (xs.length ≤ i ∨ i = N) → L (k + 1) (i : Int) s = some s) {s : σ} (h0 : Inv 0 s) {fu : Nat} (hf : N < fu) :
    L fu (0 : Int) s = some (goN g xs N 0 s) ∧ ∃ i, i ≤ N ∧ Inv i (goN g xs N 0 s) := by
  have key : ∀ m i k s, i + m = N → m < k → Inv i s → L k ((i : Nat) : Int) s = some (goN g xs m i s) ∧ ∃ j, j ≤ N ∧ Inv j (goN g xs m i s) := by
    intro m
    induction m with
    | zero =>
      intro i k s hi hk hv
      obtain ⟨k, rfl⟩ : ∃ q, k = q + 1 := ⟨k - 1, by omega⟩
      exact ⟨he k i s (.inr (by omega)), i, by omega, hv⟩
    | succ m ih =>
      intro i k s hi hk hv
      obtain ⟨k, rfl⟩ : ∃ q, k = q + 1 := ⟨k - 1, by omega⟩
      by_cases hlt : i < xs.length
      · have hx := List.getElem?_eq_getElem hlt
        have e : goN g xs (m + 1) i s = goN g xs m (i + 1) (g i s xs[i]) := by rw [goN, hx]
        rw [e, hs k i s _ hx (by omega) hv]
        exact ih (i + 1) k _ (by omega) (by omega) (hI i s _ hx hv)
      · have hx : xs[i]? = none := List.getElem?_eq_none (by omega)
        have e : goN g xs (m + 1) i s = s := by rw [goN, hx]
        rw [e]
        exact ⟨he k i s (.inl (by omega)), i, by omega, hv⟩
  exact key N 0 fu s (by omega) hf h0
def gS (fu : Nat) (i : Nat) (acc : List (List TTst)) (q : List UInt8) : List (List TTst) := bif i % 2 == 1 then acc else acc ++ [rulS fu q]
theorem specL0_t {fu : Nat} {s : List UInt8} (hf : 1048577 ≤ fu) (hs : s.length ≤ 1048576) : ∃ R, M_spec_ParseRules_L0 fu (spC 32 s) fu (0 : Int) [] [] = some R ∧ R = goN (gS fu) (spC 32 s) 7 0 [] ∧ RsOK R := by
  have h := loop_goN (xs := spC 32 s) (N := 7) (g := gS fu) (Inv := fun i acc => acc.length ≤ i ∧ ∀ l ∈ acc, l.length ≤ 4) (L := fun k i acc => M_spec_ParseRules_L0 fu (spC 32 s) k i acc []) (fun k i acc q hx h7 hv => by
    have hi := at_lt hx
    have hql := spC_mem 32 s q (at_mem hx)
    show M_spec_ParseRules_L0 fu (spC 32 s) (k + 1) (i : Int) acc [] = _
    rw [M_spec_ParseRules_L0, bd_eq, lt_t hi, decide_eq_true (show (i : Int) ≤ 6 by omega), Bool.and_self, cond_true]
    show (bif ((((i % 2 : Nat) : Int)) == (1 : Int)) then _ else _) = _
    have e : ((((i % 2 : Nat) : Int)) == (1 : Int)) = (i % 2 == 1) := by
      rcases Nat.mod_two_eq_zero_or_one i with h | h <;> rw [h] <;> rfl
    rw [e]
    unfold gS
    cases i % 2 == 1
    · have hcut : M_spec_l2Cut fu q (44 : Int) = some (spC 44 q) := l2Cut_t (c := 44) hf (by omega)
      rw [cond_false, cond_false, ck_t (inR_t hi), gtD_get hx, hcut, cl_true, specL1_t hf (by omega), cl_true, ck_t (lenOK_t (by rw [List.length_singleton]; have := hv.1; omega)), ck_t (i64B_n (by omega)), succ_i]
    · rw [cond_true, cond_true, ck_t (i64B_n (by omega)), succ_i]) (fun i acc q hx hv => by
    unfold gS
    cases i % 2 == 1
    · refine ⟨?_, fun l hl => ?_⟩
      · have := hv.1
        rw [cond_false, List.length_append, List.length_singleton]
        omega
      · rw [cond_false] at hl
        rcases List.mem_append.1 hl with hl | hl
        · exact hv.2 l hl
        · rw [List.mem_singleton.1 hl]
          unfold rulS
          rw [List.length_map, List.length_take]
          omega
    · exact ⟨Nat.le_succ_of_le hv.1, hv.2⟩) (fun k i acc h => by
    have hc : (decide ((i : Int) < ((spC 32 s).length : Int)) && decide ((i : Int) ≤ 6)) = false := by
      rw [Bool.and_eq_false_imp, decide_eq_true_eq, decide_eq_false_iff_not]
      omega
    show M_spec_ParseRules_L0 fu (spC 32 s) (k + 1) (i : Int) acc [] = _
    rw [M_spec_ParseRules_L0, bd_eq, hc]
    rfl) (s := []) ⟨Nat.le_refl _, fun l hl => by cases hl⟩ (show 7 < fu by omega)
  obtain ⟨h1, j, hj, h2, h3⟩ := h
  exact ⟨_, h1, rfl, by omega, fun l hl => by have := h3 l hl; omega⟩
theorem rulS_t {fu : Nat} {l : List TTst} (hf : 1048577 ≤ fu) (h : ∀ t ∈ l, TstOK t) (hl : l ≠ []) (h3 : l.length ≤ 3) : rulS fu (ruleT l) = l := by
  unfold rulS
  rw [(rul_t hf h hl).2.2, List.take_of_length_le (by rw [List.length_map]; omega), List.map_map]
  refine (List.map_congr_left fun t ht => ?_).trans (List.map_id l)
  exact tS_t hf (h t ht)
theorem spC_or {x y : List UInt8} (hx : (32 : UInt8) ∉ x) : spC 32 (x ++ sepR ++ y) = x :: [111, 114] :: spC 32 y := by
  rw [List.append_assoc]
  show spC 32 (x ++ 32 :: (([111, 114] : List UInt8) ++ 32 :: y)) = _
  rw [spC_app hx, spC_app (by decide)]
theorem specPR_t {fu : Nat} {s : List UInt8} (hf : 1048577 ≤ fu) (hs : s.length ≤ 1048576) : ∃ r, M_spec_ParseRules fu s = some r ∧ PRk s r := by
  unfold M_spec_ParseRules
  have hcut : M_spec_l2Cut fu s (32 : Int) = some (spC 32 s) := l2Cut_t (c := 32) hf hs
  obtain ⟨Q, hQ, eQ, hok⟩ := specL0_t (fu := fu) hf hs
  have efr : M_spec_FormatRules fu Q = some (fr Q) := specFR_t hf hok
  rw [hcut, cl_true, hQ, cl_true, efr, cl_if, bd_eq]
  have hval : ∀ R, rsB R = true → frT R = s → Q = R := fun R hv e => by
    obtain ⟨k1, k2, k3⟩ := rs_ok2 hv
    have hr : ∀ l ∈ R, rulS fu (ruleT l) = l ∧ (32 : UInt8) ∉ ruleT l := fun l hl => ⟨rulS_t hf (k3 l hl).2 (k3 l hl).1.1 (k3 l hl).1.2, ruleT_no (k3 l hl).2⟩
    rw [eQ, ← e]
    unfold frT
    match R, k1, k2, hr with
    | [a], _, _, hr =>
      obtain ⟨a1, a2⟩ := hr a (by simp)
      rw [List.map_cons, List.map_nil, jn_one, spC_none a2]
      show ([] ++ [rulS fu (ruleT a)]) = _
      rw [a1]
      rfl
    | [a, b], _, _, hr =>
      obtain ⟨a1, a2⟩ := hr a (by simp)
      obtain ⟨b1, b2⟩ := hr b (by simp)
      have e2 : jn sepR ([a, b].map ruleT) = ruleT a ++ sepR ++ ruleT b := by simp [jn]
      rw [e2, spC_or a2, spC_none b2]
      show ([] ++ [rulS fu (ruleT a)] ++ [rulS fu (ruleT b)]) = _
      rw [a1, b1]
      rfl
    | [a, b, c], _, _, hr =>
      obtain ⟨a1, a2⟩ := hr a (by simp)
      obtain ⟨b1, b2⟩ := hr b (by simp)
      obtain ⟨c1, c2⟩ := hr c (by simp)
      have e2 : jn sepR ([a, b, c].map ruleT) = ruleT a ++ sepR ++ (ruleT b ++ sepR ++ ruleT c) := by simp [jn]
      rw [e2, spC_or a2, spC_or b2, spC_none c2]
      show ([] ++ [rulS fu (ruleT a)] ++ [rulS fu (ruleT b)] ++ [rulS fu (ruleT c)]) = _
      rw [a1, b1, c1]
      rfl
  cases hn : (s == [])
  · have hne : s ≠ [] := by simpa using hn
    rw [show (bif (true && (false == false)) then fr Q else default) = fr Q from rfl, Bool.false_or]
    cases hb : (fr Q == s)
    · refine ⟨_, rfl, .inl rfl, fun R hv e => ?_⟩
      obtain rfl := hval R hv e
      have : fr Q = s := by unfold fr; rw [hv]; exact e
      rw [this] at hb
      simp at hb
    · refine ⟨_, rfl, .inr ⟨_, rfl, eq_of_beq hb, hne⟩, fun R hv e => ?_⟩
      rw [hval R hv e]
  · refine ⟨_, rfl, .inl rfl, fun R hv e => ?_⟩
    have e0 : s = [] := by simpa using hn
    exact absurd (e.trans e0) (frT_ne hv)
theorem wL_nul {α : Type} {f : α → Nat} (h : ∀ x, f x = 0) (xs : List α) : wL f xs = xs.length := by
  unfold wL
  have : (xs.map f).sum = 0 := by
    induction xs with
    | nil => rfl
    | cons x xs ih => simp [h, ih]
  omega
theorem w_small {R : List (List TTst)} (h1 : R.length ≤ 3) (h2 : ∀ l ∈ R, l.length ≤ 3) : w_RuleSet R ≤ 1048576 := by
  have hw : ∀ l : List TTst, w_Rule l = l.length := fun l => by
    unfold w_Rule w_TestS
    exact wL_nul (f := w_Test) (fun _ => rfl) l
  unfold w_RuleSet w_RuleS wL
  have key : ∀ R : List (List TTst), (∀ l ∈ R, l.length ≤ 3) → (R.map w_Rule).sum ≤ 3 * R.length := by
    intro R
    induction R with
    | nil => intro _; exact Nat.le_refl _
    | cons l R ih =>
      intro h
      have := h l (List.mem_cons_self ..)
      have := ih fun x hx => h x (List.mem_cons_of_mem _ hx)
      rw [List.map_cons, List.sum_cons, List.length_cons, hw]
      omega
  have := key R h2
  omega
theorem hs_ParseRules {a0 : List UInt8} (h0 : qB a0) (hx : a0.length ≤ 1048576) : ∃ r : List (List TTst) × Bool, M_spec_ParseRules 1048577 a0 = some r ∧ M_impl_ParseRules 1048577 a0 = some r ∧ w_RuleSet r.1 ≤ 1048576 := by
  obtain ⟨r, h1, h2⟩ := specPR_t (fu := 1048577) (Nat.le_refl _) hx
  obtain ⟨q, k1, k2⟩ := implPR_t (fu := 1048577) (Nat.le_refl _) hx
  obtain rfl := h2.one k2
  refine ⟨r, h1, k1, ?_⟩
  rcases h2.no with e | ⟨R, e, e2, e3⟩
  · rw [e]
    exact w_small (Nat.zero_le _) fun l hl => by cases hl
  · rw [e]
    obtain ⟨hv, _⟩ := fr_of e2 e3
    obtain ⟨_, a2, a3⟩ := rs_ok2 hv
    exact w_small a2 fun l hl => (a3 l hl).1.2
end Go.Proofs.YtpneepiboheldaaDoor
