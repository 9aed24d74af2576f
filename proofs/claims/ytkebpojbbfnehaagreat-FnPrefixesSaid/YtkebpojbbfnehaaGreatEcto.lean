/- Plain: what the law CountTokens asks. No statement of the seat is proved here. -/
import Derived.Test.YtkebpojbbfnehaaGreatEst
import Derived.Test.YtkebpojbbfnehaaGreatEh
namespace Go.Proofs.YtkebpojbbfnehaaGreat
open Go.RowKit
set_option linter.unusedVariables false
set_option linter.unusedSimpArgs false

theorem w_len {α : Type} {f : α → Nat} {xs : List α} (h : wL f xs ≤ 1048576) : xs.length ≤ 1048576 ∧ ∀ x ∈ xs, f x ≤ 1048576 := by
  unfold wL at h
  exact ⟨by omega, fun x hx => Nat.le_trans (sz_mem hx) (by omega)⟩
/-- the elements of a list, each once, in the order in which they come first -/
def fst1 (seen : List (List UInt8)) : List (List UInt8) → List (List UInt8)
  | [] => []
  | x :: xs => bif seen.any (fun y => y == x) then fst1 (seen ++ [x]) xs else x :: fst1 (seen ++ [x]) xs
theorem fst1_mem {seen l : List (List UInt8)} {x : List UInt8} : x ∈ fst1 seen l ↔ x ∈ l ∧ x ∉ seen := by
  induction l generalizing seen with
  | nil => simp [fst1]
  | cons z l ih =>
    unfold fst1
    cases hz : seen.any fun y => y == z
    · have hz' : z ∉ seen := fun h => by simp at hz; exact hz z h rfl
      rw [cond_false, List.mem_cons, ih, List.mem_append, List.mem_singleton, List.mem_cons]
      constructor
      · rintro (rfl | ⟨h1, h2⟩)
        · exact ⟨.inl rfl, hz'⟩
        · exact ⟨.inr h1, fun h => h2 (.inl h)⟩
      · rintro ⟨rfl | h1, h2⟩
        · exact .inl rfl
        · by_cases e : x = z
          · exact .inl e
          · exact .inr ⟨h1, fun h => h.elim h2 e⟩
    · have hz' : z ∈ seen := by simpa using hz
      rw [cond_true, ih, List.mem_append, List.mem_singleton, List.mem_cons]
      constructor
      · rintro ⟨h1, h2⟩
        exact ⟨.inr h1, fun h => h2 (.inl h)⟩
      · rintro ⟨rfl | h1, h2⟩
        · exact absurd hz' h2
        · exact ⟨h1, fun h => h.elim h2 fun e => h2 (e ▸ hz')⟩
theorem fst1_nodup {seen l : List (List UInt8)} : (fst1 seen l).Nodup := by
  induction l generalizing seen with
  | nil => exact List.Pairwise.nil
  | cons z l ih =>
    unfold fst1
    cases seen.any fun y => y == z
    · rw [cond_false]
      refine List.nodup_cons.2 ⟨fun h => ?_, ih⟩
      have := (fst1_mem.1 h).2
      simp at this
    · exact ih
theorem fst1_perm (l : List (List UInt8)) : (fst1 [] l).Perm (setL l) := by
  refine (List.perm_ext_iff_of_nodup fst1_nodup (SortedS.nodup sto_bLt (setL_sorted l))).2 fun x => ?_
  rw [fst1_mem, setL_mem]
  simp
theorem fst1_length (seen l : List (List UInt8)) : (fst1 seen l).length ≤ l.length := by
  induction l generalizing seen with
  | nil => exact Nat.le_refl _
  | cons z l ih =>
    unfold fst1
    have := ih (seen ++ [z])
    cases seen.any fun y => y == z <;> simp <;> omega
def allL (sets : List (List (List UInt8))) : List (List UInt8) := sets.flatMap setL
theorem flat_le {sets : List (List (List UInt8))} {n : Nat} (h : (sets.map fun s => s.length).sum ≤ n) : (allL sets).length ≤ n := by
  refine Nat.le_trans ?_ h
  clear h
  induction sets with
  | nil => exact Nat.le_refl _
  | cons s sets ih =>
    have := setL_length s
    unfold allL at ih ⊢
    rw [List.flatMap_cons, List.length_append, List.map_cons, List.sum_cons]
    omega
/-- the table of a sorted list -/
def tabS (acc : List (List UInt8 × Int)) : List UInt8 → List (List UInt8) → List (List UInt8 × Int)
  | _, [] => acc
  | p, x :: xs => bif p == x then tabS (acc.set (acc.length - 1) (x, (gtD acc ((acc.length : Int) - 1)).2 + 1)) x xs else tabS (acc ++ [(x, 1)]) x xs
def tabL : List (List UInt8) → List (List UInt8 × Int)
  | [] => []
  | x :: xs => tabS [(x, 1)] x xs
theorem specSet1_t {fu : Nat} {sets : List (List (List UInt8))} {i : Nat} {s : List (List UInt8)} (hs : sets[i]? = some s) (hf : 1048577 ≤ fu) (hl : s.length ≤ 1048576) (acc : List (List UInt8)) (ha : acc.length + s.length ≤ 1048576) :
    M_spec_CountTokens_L1 fu sets (i : Int) fu (0 : Int) acc = some ((fst1 [] s).foldl (putW bLt) acc) := by
  have hi := at_lt hs
  have key : ∀ m j k acc, j + m = s.length → m < k → acc.length + m ≤ 1048576 → M_spec_CountTokens_L1 fu sets (i : Int) k (j : Int) acc = some ((fst1 (s.take j) (s.drop j)).foldl (putW bLt) acc) := by
    intro m
    induction m with
    | zero =>
      intro j k acc hm hk ha
      obtain ⟨k, rfl⟩ : ∃ q, k = q + 1 := ⟨k - 1, by omega⟩
      obtain rfl : j = s.length := by omega
      rw [M_spec_CountTokens_L1, ck_t (inR_t hi), gtD_get hs, lt_f, List.drop_length]
      rfl
    | succ m ih =>
      intro j k acc hm hk ha
      obtain ⟨k, rfl⟩ : ∃ q, k = q + 1 := ⟨k - 1, by omega⟩
      have hlt : j < s.length := by omega
      have hx := List.getElem?_eq_getElem hlt
      have ht : s.take (j + 1) = s.take j ++ [s[j]] := by rw [List.take_add_one, hx]; rfl
      have hlen : (putW bLt acc s[j]).length = acc.length + 1 := insAt_length _ _ _
      rw [M_spec_CountTokens_L1, ck_t (inR_t hi), gtD_get hs, lt_t hlt, cond_true, ck_t (inR_t hi), ck_t (subR_k (by omega)), ck_t (inR_t hi), ck_t (inR_t hlt), gtD_get hx, subL_take, has_t (by simp; omega) (by simp; omega), cl_true, drop_cons hx, fst1]
      cases (s.take j).any fun y => y == s[j]
      · rw [Bool.not_false, cond_true, cond_false, ck_t (inR_t hi), ck_t (inR_t hlt), put_t (by omega) (by omega), cl_true, cond_true, ck_t (i64B_n (by omega)), succ_i, List.foldl_cons, ih (j + 1) k _ (by omega) (by omega) (by omega), ht]
      · rw [Bool.not_true, cond_false, cond_true, ck_t (i64B_n (by omega)), succ_i, ih (j + 1) k _ (by omega) (by omega) (by omega), ht]
  have := key s.length 0 fu acc (by omega) (by omega) ha
  rw [show ((0 : Nat) : Int) = 0 from rfl, List.take_zero, List.drop_zero] at this
  exact this
theorem putW_fold_length : ∀ (xs acc : List (List UInt8)), (xs.foldl (putW bLt) acc).length = acc.length + xs.length
  | [], acc => rfl
  | x :: xs, acc => by
    rw [List.foldl_cons, putW_fold_length xs, show (putW bLt acc x).length = acc.length + 1 from insAt_length _ _ _, List.length_cons]
    omega
theorem specSets_t {fu : Nat} {sets : List (List (List UInt8))} (hf : 1048577 ≤ fu) (hl : sets.length ≤ 1048576) (he : ∀ s ∈ sets, s.length ≤ 1048576) (hw : (sets.map fun s => s.length).sum ≤ 1048576) : M_spec_CountTokens_L0 fu sets fu (0 : Int) [] = some ((sets.flatMap (fst1 [])).foldl (putW bLt) []) := by
  have key : ∀ m i k acc, i + m = sets.length → m < k → acc.length + ((sets.drop i).map fun s => s.length).sum ≤ 1048576 → M_spec_CountTokens_L0 fu sets k (i : Int) acc = some (((sets.drop i).flatMap (fst1 [])).foldl (putW bLt) acc) := by
    intro m
    induction m with
    | zero =>
      intro i k acc hm hk ha
      obtain ⟨k, rfl⟩ : ∃ q, k = q + 1 := ⟨k - 1, by omega⟩
      obtain rfl : i = sets.length := by omega
      rw [M_spec_CountTokens_L0, lt_f, List.drop_length]
      rfl
    | succ m ih =>
      intro i k acc hm hk ha
      obtain ⟨k, rfl⟩ : ∃ q, k = q + 1 := ⟨k - 1, by omega⟩
      have hlt : i < sets.length := by omega
      have hs := List.getElem?_eq_getElem hlt
      have hfl := fst1_length [] sets[i]
      rw [drop_cons hs, List.map_cons, List.sum_cons] at ha
      rw [M_spec_CountTokens_L0, lt_t hlt, cond_true, specSet1_t hs hf (he _ (at_mem hs)) acc (by omega), cl_true, ck_t (i64B_n (by omega)), succ_i, ih (i + 1) k _ (by omega) (by omega) (by rw [putW_fold_length]; omega), drop_cons hs, List.flatMap_cons, List.foldl_append]
  have := key sets.length 0 fu [] (by omega) (by omega) (by rw [List.drop_zero]; simpa using hw)
  rw [show ((0 : Nat) : Int) = 0 from rfl, List.drop_zero] at this
  exact this
theorem all_eq (sets : List (List (List UInt8))) : (sets.flatMap (fst1 [])).foldl (putW bLt) [] = (allL sets).mergeSort fun x y => !(bLt y x) := by
  obtain ⟨h1, h2⟩ := foldl_putW sto_bLt (sets.flatMap (fst1 [])) [] List.Pairwise.nil
  refine sortedW_one sto_bLt ?_ h1 (sort_sorted sto_bLt _)
  refine h2.trans ?_
  rw [List.append_nil]
  refine List.Perm.trans ?_ (List.mergeSort_perm _ _).symm
  unfold allL
  induction sets with
  | nil => exact List.Perm.refl _
  | cons s sets ih =>
    rw [List.flatMap_cons, List.flatMap_cons]
    exact (fst1_perm s).append (ih (foldl_putW sto_bLt _ [] List.Pairwise.nil).1 (foldl_putW sto_bLt _ [] List.Pairwise.nil).2)
/-- counts stay small: no count is more than what has been counted -/
def Cnt (n : Nat) (acc : List (List UInt8 × Int)) : Prop := acc.length ≤ n ∧ ∀ x ∈ acc, 1 ≤ x.2 ∧ x.2 ≤ n
theorem gtD_last {acc : List (List UInt8 × Int)} (h : 0 < acc.length) : acc[acc.length - 1]? = some (gtD acc ((acc.length : Int) - 1)) := by
  have e : ((acc.length : Int) - 1) = ((acc.length - 1 : Nat) : Int) := by omega
  have h1 := List.getElem?_eq_getElem (show acc.length - 1 < acc.length by omega)
  rw [e, gtD_get h1]
  exact h1
theorem cnt_set {n : Nat} {acc : List (List UInt8 × Int)} (h : Cnt n acc) (hp : 0 < acc.length) {x : List UInt8} : Cnt (n + 1) (acc.set (acc.length - 1) (x, (gtD acc ((acc.length : Int) - 1)).2 + 1)) := by
  refine ⟨by rw [List.length_set]; exact Nat.le_succ_of_le h.1, fun y hy => ?_⟩
  have hl := h.2 _ (List.mem_of_getElem? (gtD_last hp))
  rcases List.mem_or_eq_of_mem_set hy with hy | rfl
  · have := h.2 y hy
    omega
  · show 1 ≤ (gtD acc ((acc.length : Int) - 1)).2 + 1 ∧ (gtD acc ((acc.length : Int) - 1)).2 + 1 ≤ ((n + 1 : Nat) : Int)
    omega
theorem cnt_app {n : Nat} {acc : List (List UInt8 × Int)} (h : Cnt n acc) {x : List UInt8} : Cnt (n + 1) (acc ++ [(x, 1)]) := by
  refine ⟨by rw [List.length_append]; exact Nat.succ_le_succ h.1, fun y hy => ?_⟩
  rcases List.mem_append.1 hy with hy | hy
  · have := h.2 y hy
    omega
  · rw [List.mem_singleton.1 hy]
    show (1 : Int) ≤ 1 ∧ (1 : Int) ≤ ((n + 1 : Nat) : Int)
    omega
/-- the last of the accumulated entries stands for the element before -/
def LastIs (acc : List (List UInt8 × Int)) (q : List UInt8) : Prop := 0 < acc.length ∧ (gtD acc ((acc.length : Int) - 1)).1 = q
theorem last_set {acc : List (List UInt8 × Int)} {x : List UInt8} (c : Int) (h : 0 < acc.length) : LastIs (acc.set (acc.length - 1) (x, c)) x := by
  refine ⟨by rw [List.length_set]; exact h, ?_⟩
  have e : ((acc.length : Int) - 1) = ((acc.length - 1 : Nat) : Int) := by omega
  rw [List.length_set, e, gtD_get (List.getElem?_set_self (by omega))]
theorem last_app {acc : List (List UInt8 × Int)} {x : List UInt8} (c : Int) : LastIs (acc ++ [(x, c)]) x := by
  refine ⟨by simp, ?_⟩
  have e : (((acc ++ [(x, c)]).length : Int) - 1) = ((acc.length : Nat) : Int) := by simp
  rw [e, gtD_get (show (acc ++ [(x, c)])[acc.length]? = some (x, c) by simp)]
theorem specTabS_t {fu : Nat} {s : List (List UInt8)} (hl : s.length ≤ 1048576) : ∀ m i k acc q, i + 1 + m = s.length → m < k → s[i]? = some q → Cnt (i + 1) acc → LastIs acc q → M_spec_CountTokens_L2 fu s k ((i + 1 : Nat) : Int) acc = some (tabS acc q (s.drop (i + 1))) := by
  intro m
  induction m with
  | zero =>
    intro i k acc q hm hk hq hc hla
    obtain ⟨k, rfl⟩ : ∃ q, k = q + 1 := ⟨k - 1, by omega⟩
    have e : i + 1 = s.length := by omega
    rw [M_spec_CountTokens_L2, e, lt_f, List.drop_length]
    rfl
  | succ m ih =>
    intro i k acc q hm hk hq hc hla
    obtain ⟨k, rfl⟩ : ∃ q, k = q + 1 := ⟨k - 1, by omega⟩
    have hlt : i + 1 < s.length := by omega
    have hx := List.getElem?_eq_getElem hlt
    have hg := hc.2 _ (List.mem_of_getElem? (gtD_last hla.1))
    have hcl := hc.1
    have hlp := hla.1
    have hin : inR ((acc.length : Int) - 1) acc.length = true := inR_i (by omega) (by omega)
    have hb1 : i64B ((acc.length : Int) - 1) = true := i64B_t (by omega) (by omega)
    have hb2 : i64B ((gtD acc ((acc.length : Int) - 1)).2 + 1) = true := i64B_t (by omega) (by omega)
    have hto : ((acc.length : Int) - 1).toNat = acc.length - 1 := by omega
    rw [M_spec_CountTokens_L2, lt_t hlt, cond_true, pos_i, pred_i, ck_t (by rw [i64B_i i (by omega), Bool.or_true]), ck_t (by rw [inR_t (at_lt hq), Bool.or_true]), ck_t (by rw [inR_t hlt, Bool.or_true]), bd_eq, Bool.true_and, gtD_get hq, gtD_get hx, drop_cons hx, tabS]
    cases hqx : (q == s[i + 1])
    · rw [cond_false, cond_false, ck_t (inR_t hlt), ck_t (lenOK_t (by simp; omega)), succ_i, ck_t (i64B_c (by omega))]
      exact ih (i + 1) k _ _ (by omega) (by omega) hx (cnt_app hc) (last_app 1)
    · rw [cond_true, cond_true, ck_t hb1, ck_t hb1, ck_t hin, ck_t hb2, ck_t hin, succ_i, ck_t (i64B_c (by omega)), hto]
      have hq' : (gtD acc ((acc.length : Int) - 1)).1 = s[i + 1] := by
        rw [hla.2]
        simpa using hqx
      rw [hq']
      exact ih (i + 1) k _ _ (by omega) (by omega) hx (cnt_set hc hla.1) (last_set _ hla.1)
theorem cnt_one (x : List UInt8) : Cnt 1 [(x, 1)] := ⟨Nat.le_refl _, fun y hy => by rw [List.mem_singleton.1 hy]; exact ⟨Int.le_refl _, Int.le_refl _⟩⟩
theorem specCtab_t {fu : Nat} {s : List (List UInt8)} (hf : 1048577 ≤ fu) (hl : s.length ≤ 1048576) : M_spec_CountTokens_L2 fu s fu (0 : Int) [] = some (tabL s) := by
  obtain ⟨k, hk⟩ : ∃ k, fu = k + 1 := ⟨fu - 1, by omega⟩
  have key : ∀ n, n = k + 1 → M_spec_CountTokens_L2 fu s n (0 : Int) [] = some (tabL s) := by
    intro n hn
    subst hn
    cases s with
    | nil => rw [M_spec_CountTokens_L2]; rfl
    | cons x t =>
      have h := specTabS_t (fu := fu) hl t.length 0 k [(x, 1)] x (by simp; omega) (by simp at hl; omega) rfl (cnt_one x) (last_app (acc := []) 1)
      have h0 : 0 < (x :: t).length := by simp
      rw [M_spec_CountTokens_L2, lt_0 h0, cond_true, no_00, gtD_0 (show (x :: t)[0]? = some x from rfl)]
      show (ck (inR (0 : Int) (x :: t).length) (ck (lenOK (([] : List (List UInt8 × Int)).length + [(x, (1 : Int))].length)) (ck (i64B (0 + 1)) (M_spec_CountTokens_L2 fu (x :: t) k (0 + 1) ([] ++ [(x, 1)]))))) = _
      rw [ck_t (inR_0 h0)]
      exact h
  exact key fu hk
/-- the table is no longer than the list, and its tokens weigh no more -/
theorem tabS_w : ∀ (xs : List (List UInt8)) (acc : List (List UInt8 × Int)) (p : List UInt8), LastIs acc p → wL (fun x : List UInt8 × Int => x.1.length) (tabS acc p xs) ≤ wL (fun x : List UInt8 × Int => x.1.length) acc + wL (fun x : List UInt8 => x.length) xs
  | [], acc, p, hla => by
    unfold tabS
    omega
  | x :: xs, acc, p, hla => by
    unfold tabS
    have hcons : wL (fun x : List UInt8 => x.length) (x :: xs) = 1 + x.length + wL (fun x : List UInt8 => x.length) xs := by
      unfold wL
      simp only [List.length_cons, List.map_cons, List.sum_cons]
      omega
    cases hpx : (p == x)
    · rw [cond_false]
      have h1 := tabS_w xs (acc ++ [(x, 1)]) x (last_app 1)
      have h2 : wL (fun x : List UInt8 × Int => x.1.length) (acc ++ [(x, 1)]) = wL (fun x : List UInt8 × Int => x.1.length) acc + 1 + x.length := by
        unfold wL
        simp
        omega
      omega
    · rw [cond_true]
      have h1 := tabS_w xs (acc.set (acc.length - 1) (x, (gtD acc ((acc.length : Int) - 1)).2 + 1)) x (last_set _ hla.1)
      have hx : (gtD acc ((acc.length : Int) - 1)).1 = x := by
        rw [hla.2]
        simpa using hpx
      have h2 : wL (fun x : List UInt8 × Int => x.1.length) (acc.set (acc.length - 1) (x, (gtD acc ((acc.length : Int) - 1)).2 + 1)) = wL (fun x : List UInt8 × Int => x.1.length) acc := by
        unfold wL
        rw [List.length_set, List.map_set]
        congr 2
        have h3 := gtD_last hla.1
        apply List.ext_getElem?
        intro j
        by_cases hj : j = acc.length - 1
        · subst hj
          rw [List.getElem?_set_self (by have := hla.1; simp; omega), List.getElem?_map, h3]
          simp [hx]
        · rw [List.getElem?_set_ne (Ne.symm hj)]
      omega
theorem tabL_w (s : List (List UInt8)) : wL (fun x : List UInt8 × Int => x.1.length) (tabL s) ≤ wL (fun x : List UInt8 => x.length) s := by
  cases s with
  | nil => exact Nat.le_refl _
  | cons x t =>
    have h := tabS_w t [(x, 1)] x (last_app (acc := []) 1)
    unfold tabL
    refine Nat.le_trans h ?_
    unfold wL
    simp
    omega
theorem cmpA_w : ∀ (xs : List (List UInt8)) (p : List UInt8), wL (fun x : List UInt8 => x.length) (cmpA p xs) ≤ wL (fun x : List UInt8 => x.length) xs
  | [], p => Nat.le_refl _
  | x :: xs, p => by
    have h := cmpA_w xs x
    unfold cmpA
    unfold wL at h ⊢
    cases (x == p)
    · rw [cond_false]
      simp only [List.length_cons, List.map_cons, List.sum_cons]
      omega
    · rw [cond_true]
      simp only [List.length_cons, List.map_cons, List.sum_cons]
      omega
theorem perm_sum {xs ys : List Nat} (h : xs.Perm ys) : xs.sum = ys.sum := by
  induction h with
  | nil => rfl
  | cons x _ ih => simp [ih]
  | swap x y l => simp; omega
  | trans _ _ h1 h2 => exact h1.trans h2
theorem w_perm {α : Type} {f : α → Nat} {xs ys : List α} (hp : ys.Perm xs) : wL f ys = wL f xs := by
  unfold wL
  rw [hp.length_eq, perm_sum (hp.map f)]
theorem setL_w (l : List (List UInt8)) : wL (fun x : List UInt8 => x.length) (setL l) ≤ wL (fun x : List UInt8 => x.length) l := by
  unfold setL
  rw [← w_perm (List.mergeSort_perm l fun x y => !(bLt y x))]
  cases l.mergeSort fun x y => !(bLt y x) with
  | nil => exact Nat.le_refl _
  | cons x t =>
    have h := cmpA_w t x
    unfold cmpL
    unfold wL at h ⊢
    simp only [List.length_cons, List.map_cons, List.sum_cons]
    omega
theorem wL_app {α : Type} {f : α → Nat} (xs ys : List α) : wL f (xs ++ ys) = wL f xs + wL f ys := by
  unfold wL
  simp
  omega
theorem countsS_t {fu : Nat} {a0 : List (List (List UInt8))} (hf : 1048577 ≤ fu) (k1 : a0.length ≤ 1048576) (he : ∀ s ∈ a0, s.length ≤ 1048576) (hw : (a0.map fun s => s.length).sum ≤ 1048576) :
    M_spec_CountTokens fu a0 = some (tabL ((allL a0).mergeSort fun x y => !(bLt y x))) := by
  have hal := flat_le (n := 1048576) (sets := a0) hw
  unfold M_spec_CountTokens
  rw [specSets_t hf k1 he hw, cl_true, all_eq, specCtab_t hf (by rw [List.length_mergeSort]; exact hal), cl_true]
end Go.Proofs.YtkebpojbbfnehaaGreat

