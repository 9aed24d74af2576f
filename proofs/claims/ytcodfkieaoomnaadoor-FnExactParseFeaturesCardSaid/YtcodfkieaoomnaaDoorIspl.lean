/- Plain: texts cut at a byte, program and reference alike. No statement of the seat is proved here. -/
import Derived.Test.YtcodfkieaoomnaaDoorIz
import Derived.Test.YtcodfkieaoomnaaDoorPd
import Derived.Lib.SplitLaws
namespace Go.Proofs.YtcodfkieaoomnaaDoor
open Go.RowKit
set_option linter.unusedVariables false
set_option linter.unusedSimpArgs false

/-- the parts of s between the bytes c -/
def spC (c : UInt8) : List UInt8 → List (List UInt8)
  | [] => [[]]
  | b :: s => if b = c then [] :: spC c s else match spC c s with
    | [] => [[b]]
    | x :: xs => (b :: x) :: xs
theorem spC_ne (c : UInt8) (s : List UInt8) : spC c s ≠ [] := by
  cases s with
  | nil => simp [spC]
  | cons b s =>
    unfold spC
    split
    · simp
    · cases spC c s <;> simp
theorem spC_none {c : UInt8} : ∀ {s : List UInt8}, c ∉ s → spC c s = [s]
  | [], _ => rfl
  | b :: s, h => by
    have h1 : b ≠ c := fun e => h (e ▸ List.mem_cons_self)
    have h2 := spC_none (c := c) (s := s) fun h' => h (List.mem_cons_of_mem _ h')
    unfold spC
    rw [if_neg h1, h2]
theorem spC_app {c : UInt8} : ∀ {x s : List UInt8}, c ∉ x → spC c (x ++ c :: s) = x :: spC c s
  | [], s, _ => by
    show spC c (c :: s) = _
    rw [spC, if_pos rfl]
  | b :: x, s, h => by
    have h1 : b ≠ c := fun e => h (e ▸ List.mem_cons_self)
    have h2 := spC_app (c := c) (x := x) (s := s) fun h' => h (List.mem_cons_of_mem _ h')
    rw [List.cons_append, spC, if_neg h1, h2]
theorem spC_len (c : UInt8) : ∀ s : List UInt8, (spC c s).length ≤ s.length + 1
  | [] => Nat.le_refl _
  | b :: s => by
    have := spC_len c s
    unfold spC
    split
    · simp only [List.length_cons]; omega
    · cases h : spC c s with
      | nil => simp
      | cons x xs => rw [h] at this; simp only [List.length_cons] at this ⊢; omega
theorem spC_mem (c : UInt8) : ∀ s : List UInt8, ∀ x ∈ spC c s, x.length ≤ s.length
  | [], x, hx => by rw [spC] at hx; rw [List.mem_singleton.1 hx]; exact Nat.le_refl _
  | b :: s, x, hx => by
    unfold spC at hx
    split at hx
    · rcases List.mem_cons.1 hx with rfl | hx
      · exact Nat.zero_le _
      · exact Nat.le_succ_of_le (spC_mem c s x hx)
    · cases h : spC c s with
      | nil => exact absurd h (spC_ne c s)
      | cons y ys =>
        rw [h] at hx
        rcases List.mem_cons.1 hx with rfl | hx
        · have := spC_mem c s y (by rw [h]; exact List.mem_cons_self)
          simp only [List.length_cons]; omega
        · have := spC_mem c s x (by rw [h]; exact List.mem_cons_of_mem _ hx)
          simp only [List.length_cons]; omega
/-- if no part is empty, there are few -/
theorem spC_few (c : UInt8) : ∀ s : List UInt8, (∀ x ∈ spC c s, x ≠ []) → 2 * (spC c s).length ≤ s.length + 1
  | [], h => (h [] (by simp [spC]) rfl).elim
  | b :: s, h => by
    by_cases hb : b = c
    · exact (h [] (by rw [spC, if_pos hb]; exact List.mem_cons_self) rfl).elim
    · cases hs : spC c s with
      | nil => exact absurd hs (spC_ne c s)
      | cons x xs =>
        have e : spC c (b :: s) = (b :: x) :: xs := by rw [spC, if_neg hb, hs]
        rw [e] at h ⊢
        by_cases hx : x = []
        · subst hx
          cases s with
          | nil =>
            rw [spC] at hs
            injection hs with _ hs
            subst hs
            simp
          | cons b2 s2 =>
            by_cases h2 : b2 = c
            · rw [spC, if_pos h2] at hs
              injection hs with _ hs
              have := spC_few c s2 (fun y hy => h y (List.mem_cons_of_mem _ (hs ▸ hy)))
              rw [hs] at this
              simp only [List.length_cons] at this ⊢
              omega
            · rw [spC, if_neg h2] at hs
              cases h3 : spC c s2 <;> rw [h3] at hs <;> simp at hs
        · have := spC_few c s (by
            rw [hs]
            intro y hy
            rcases List.mem_cons.1 hy with rfl | hy
            · exact hx
            · exact h y (List.mem_cons_of_mem _ hy))
          rw [hs] at this
          simp only [List.length_cons] at this ⊢
          omega
/-- a text laid with a byte between its parts -/
theorem spC_jn {c : UInt8} : ∀ {x : List UInt8} {xs : List (List UInt8)}, (∀ y ∈ x :: xs, c ∉ y) → spC c (x ++ (xs.map ([c] ++ ·)).flatten) = x :: xs
  | x, [], h => by
    rw [List.map_nil, List.flatten_nil, List.append_nil]
    exact spC_none (h x List.mem_cons_self)
  | x, y :: ys, h => by
    rw [List.map_cons, List.flatten_cons, show x ++ (([c] ++ y) ++ (ys.map ([c] ++ ·)).flatten) = x ++ c :: (y ++ (ys.map ([c] ++ ·)).flatten) by simp, spC_app (h x List.mem_cons_self), spC_jn fun z hz => h z (List.mem_cons_of_mem _ hz)]
/-! ### the reference -/
theorem bAt_get' {t : List UInt8} {i : Nat} {c : UInt8} (h : t[i]? = some c) : bAt t (i : Int) = (c.toNat : Int) := by
  unfold bAt
  simp [List.getD_eq_getElem?_getD, h]
theorem subL_mid {s : List UInt8} {a b : Nat} : subL s (a : Int) (b : Int) = (s.drop a).take (b - a) := by simp [subL]
theorem cut_loop {fu : Nat} {s : List UInt8} {c : UInt8} (hs : s.length ≤ 1048576) : ∀ m i a k (acc : List (List UInt8)), i + m = s.length → m < k → a ≤ i → acc.length ≤ i → c ∉ (s.drop a).take (i - a) →
    ∃ q : Nat × List (List UInt8), M_spec_l2Cut_L0 fu s (c.toNat : Int) k (a : Int) (i : Int) acc = some ((q.1 : Int), q.2) ∧ q.1 ≤ s.length ∧ q.2.length ≤ s.length ∧ q.2 ++ [s.drop q.1] = acc ++ spC c (s.drop a) := by
  intro m
  induction m with
  | zero =>
    intro i a k acc hi hk ha hacc hn
    obtain ⟨k, rfl⟩ : ∃ z, k = z + 1 := ⟨k - 1, by omega⟩
    obtain rfl : i = s.length := by omega
    refine ⟨(a, acc), by rw [M_spec_l2Cut_L0, lt_f]; rfl, ha, hacc, ?_⟩
    rw [List.take_of_length_le (by simp)] at hn
    rw [spC_none hn]
  | succ m ih =>
    intro i a k acc hi hk ha hacc hn
    obtain ⟨k, rfl⟩ : ∃ z, k = z + 1 := ⟨k - 1, by omega⟩
    have hlt : i < s.length := by omega
    have hx := List.getElem?_eq_getElem hlt
    have hdrop : s.drop a = (s.drop a).take (i - a) ++ s[i] :: s.drop (i + 1) := by
      have h1 : (s.drop a).drop (i - a) = s[i] :: s.drop (i + 1) := by
        rw [List.drop_drop, show a + (i - a) = i by omega]
        exact List.drop_eq_getElem_cons hlt
      rw [← h1, List.take_append_drop]
    rw [M_spec_l2Cut_L0, lt_t hlt, cond_true, ck_t (inR_t hlt), bAt_get' hx]
    by_cases hc : s[i] = c
    · have e : ((s[i].toNat : Int) == (c.toNat : Int)) = true := by rw [hc]; simp
      obtain ⟨q, h1, h2, h3, h4⟩ := ih (i + 1) (i + 1) k (acc ++ [(s.drop a).take (i - a)]) (by omega) (by omega) (Nat.le_refl _) (by simp; omega) (by simp)
      refine ⟨q, ?_, h2, h3, ?_⟩
      · rw [e, cond_true, ck_t (subR_iff.2 ⟨by omega, by omega, by omega⟩), ck_t (lenOK_t (by simp; omega)), ck_t (i64B_n (by omega)), ck_t (i64B_n (by omega)), succ_i, subL_mid]
        exact h1
      · have e3 := congrArg (spC c) hdrop
        rw [hc, spC_app hn] at e3
        rw [h4, e3, List.append_assoc]
        rfl
    · have e : ((s[i].toNat : Int) == (c.toNat : Int)) = false := by
        rw [beq_eq_false_iff_ne]
        intro h
        exact hc (UInt8.toNat_inj.1 (by omega))
      obtain ⟨q, h1, h2, h3, h4⟩ := ih (i + 1) a k acc (by omega) (by omega) (by omega) (by omega) (by
        have ht : (s.drop a).take (i + 1 - a) = (s.drop a).take (i - a) ++ [s[i]] := by
          rw [show i + 1 - a = (i - a) + 1 by omega, List.take_add_one, List.getElem?_drop, show a + (i - a) = i by omega, hx]
          rfl
        rw [ht]
        intro h
        rcases List.mem_append.1 h with h | h
        · exact hn h
        · exact hc (List.mem_singleton.1 h).symm)
      refine ⟨q, ?_, h2, h3, h4⟩
      rw [e, cond_false, ck_t (i64B_n (by omega)), succ_i]
      exact h1
theorem l2Cut_t {fu : Nat} {s : List UInt8} {c : UInt8} (hf : 1048577 ≤ fu) (hs : s.length ≤ 1048576) : M_spec_l2Cut fu s (c.toNat : Int) = some (spC c s) := by
  obtain ⟨q, h1, h2, h3, h4⟩ := cut_loop (fu := fu) (c := c) hs s.length 0 0 fu [] (by omega) (by omega) (Nat.le_refl _) (Nat.zero_le _) (by simp)
  unfold M_spec_l2Cut
  have e : subL s (q.1 : Int) (s.length : Int) = s.drop q.1 := by
    unfold subL
    exact List.take_of_length_le (by simp only [List.length_drop]; omega)
  rw [show (0 : Int) = ((0 : Nat) : Int) from rfl, h1, cl_true]
  dsimp only
  rw [ck_t (subR_iff.2 ⟨by omega, by omega, by omega⟩), e, ck_t (lenOK_t (by simp; omega)), h4]
  simp
/-! ### the program -/
theorem idx_cons_ne {b c : UInt8} {l : List UInt8} (h : b ≠ c) : Lib.index (b :: l) [c] = if Lib.index l [c] == -1 then -1 else Lib.index l [c] + 1 := by
  have hp : ([c] : List UInt8).isPrefixOf (b :: l) = false := by simp [List.isPrefixOf, Ne.symm h]
  rw [Lib.index, hp]
  simp
theorem splitK_spC (c : UInt8) : ∀ s : List UInt8, Lib.splitK [c] 0 (Lib.count s [c]) s = spC c s
  | [] => by rw [Lib.count_one]; rfl
  | b :: l => by
    have ih := splitK_spC c l
    by_cases h : b = c
    · subst h
      rw [Lib.count_cons_eq, Nat.add_comm, Lib.splitK, show Lib.index (b :: l) [b] = 0 by rw [Lib.index]; simp [List.isPrefixOf], if_neg (by decide), spC, if_pos rfl]
      simpa using ih
    · rw [Lib.count_cons_ne b c l h, spC, if_neg h, ← ih]
      cases hk : Lib.count l [c] with
      | zero => rfl
      | succ k =>
        have hm : Lib.index l [c] ≠ -1 := fun hm => by rw [Lib.count_miss hm] at hk; cases hk
        have hge := Lib.index_ge l [c]
        obtain ⟨j, hj⟩ : ∃ j : Nat, Lib.index l [c] = j := ⟨(Lib.index l [c]).toNat, by omega⟩
        have e2 : ((j : Int) + 1).toNat = j + 1 := by omega
        rw [Lib.splitK, idx_cons_ne h, hj, if_neg (by simp; omega), if_neg (by simp), e2, Lib.splitK, hj, if_neg (by simp)]
        simp
theorem split_t {fu : Nat} {s : List UInt8} {c : UInt8} (hs : s.length ≤ 1048576) : M_split fu s [c] = some (spC c s) := by
  unfold M_split splitM
  rw [ck_t (by simp; omega), Lib.splitB_data]
  unfold Lib.countB
  rw [splitK_spC]
theorem idx_app {c : UInt8} : ∀ {x s : List UInt8}, c ∉ x → Lib.index (x ++ c :: s) [c] = (x.length : Int)
  | [], s, _ => by
    rw [List.nil_append, Lib.index]
    simp [List.isPrefixOf]
  | b :: x, s, h => by
    have h1 : b ≠ c := fun e => h (e ▸ List.mem_cons_self)
    rw [List.cons_append, idx_cons_ne h1, idx_app fun h' => h (List.mem_cons_of_mem _ h'), if_neg (by simp), List.length_cons]
    omega
theorem cut_app {c : UInt8} {x s : List UInt8} (h : c ∉ x) : Lib.cut (x ++ c :: s) [c] = (x, s, true) := by
  unfold Lib.cut
  rw [idx_app h, if_pos (by omega)]
  simp
theorem cutM_t {fu : Nat} {s sep : List UInt8} (hs : s.length ≤ 1048576) : M_cut fu s sep = some (Lib.cut s sep) := by
  unfold M_cut
  rw [ck_t (by simp; omega)]
end Go.Proofs.YtcodfkieaoomnaaDoor

