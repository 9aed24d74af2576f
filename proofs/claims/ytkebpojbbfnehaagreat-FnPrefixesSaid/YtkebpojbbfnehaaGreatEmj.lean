/- Plain: sizes of intersections and unions, MeetsJaccard, program and reference alike. No statement of the seat is proved here. -/
import Derived.Test.YtkebpojbbfnehaaGreatEsi
import Derived.Test.YtkebpojbbfnehaaGreatEst
namespace Go.Proofs.YtkebpojbbfnehaaGreat
open Go.RowKit
set_option linter.unusedVariables false
set_option linter.unusedSimpArgs false

/-- what two sorted lists have in common, as often as both have it -/
def mrgN : Nat → List (List UInt8) → List (List UInt8) → Nat
  | 0, _, _ => 0
  | _ + 1, [], _ => 0
  | _ + 1, _ :: _, [] => 0
  | n + 1, x :: xs, y :: ys => bif bLt x y then mrgN n xs (y :: ys) else bif bLt y x then mrgN n (x :: xs) ys else mrgN n xs ys + 1
theorem subL_tail {α : Type} (x : α) (xs : List α) : subL (x :: xs) 1 (((x :: xs).length : Nat) : Int) = xs := by
  rw [show (1 : Int) = ((1 : Nat) : Int) from rfl, subL_drop]
  rfl
theorem mrg_t {fu : Nat} : ∀ (n k : Nat) (xs ys : List (List UInt8)) (c : Int), xs.length + ys.length ≤ n → n < k → 0 ≤ c → c + n ≤ 4294967296 → M_impl_CommonGrams_L0 fu k xs ys c = some (c + mrgN n xs ys)
  | 0, k, xs, ys, c, hn, hk, h0, h1 => by
    obtain ⟨k, rfl⟩ : ∃ q, k = q + 1 := ⟨k - 1, by omega⟩
    obtain rfl : xs = [] := List.eq_nil_of_length_eq_zero (by omega)
    rw [M_impl_CommonGrams_L0]
    simp [bd_eq, mrgN]
  | n + 1, k, [], ys, c, hn, hk, h0, h1 => by
    obtain ⟨k, rfl⟩ : ∃ q, k = q + 1 := ⟨k - 1, by omega⟩
    rw [M_impl_CommonGrams_L0]
    simp [bd_eq, mrgN]
  | n + 1, k, x :: xs, [], c, hn, hk, h0, h1 => by
    obtain ⟨k, rfl⟩ : ∃ q, k = q + 1 := ⟨k - 1, by omega⟩
    rw [M_impl_CommonGrams_L0]
    simp [bd_eq, mrgN]
  | n + 1, k, x :: xs, y :: ys, c, hn, hk, h0, h1 => by
    obtain ⟨k, rfl⟩ : ∃ q, k = q + 1 := ⟨k - 1, by omega⟩
    simp only [List.length_cons] at hn
    have hx : decide ((0 : Int) < ((x :: xs).length : Int)) = true := lt_0 (by simp)
    have hy : decide ((0 : Int) < ((y :: ys).length : Int)) = true := lt_0 (by simp)
    have sx : subR (1 : Int) (((x :: xs).length : Nat) : Int) (x :: xs).length = true := subR_d (k := 1) (by simp)
    have sy : subR (1 : Int) (((y :: ys).length : Nat) : Int) (y :: ys).length = true := subR_d (k := 1) (by simp)
    rw [M_impl_CommonGrams_L0, hx, hy]
    simp only [Bool.and_self, bd_eq, cond_true, inR_0 (show 0 < (x :: xs).length by simp), inR_0 (show 0 < (y :: ys).length by simp), ck_tt, gtD_0 (show (x :: xs)[0]? = some x from rfl), gtD_0 (show (y :: ys)[0]? = some y from rfl), sx, sy, subL_tail, i64B_t (show -9223372036854775808 ≤ c + 1 by omega) (show c + 1 ≤ 9223372036854775807 by omega)]
    unfold mrgN
    cases bLt x y
    · cases bLt y x
      · rw [cond_false, cond_false, cond_false, cond_false, mrg_t n k xs ys (c + 1) (by omega) (by omega) (by omega) (by omega)]
        congr 1
        omega
      · rw [cond_false, cond_true, cond_false, cond_true]
        exact mrg_t n k (x :: xs) ys c (by simp; omega) (by omega) h0 (by omega)
    · rw [cond_true, cond_true]
      exact mrg_t n k xs (y :: ys) c (by simp; omega) (by omega) h0 (by omega)
/-- for sets: the elements of the one that the other has -/
theorem mrgN_sets : ∀ (n : Nat) (xs ys : List (List UInt8)), xs.length + ys.length ≤ n → SortedS bLt xs → SortedS bLt ys → mrgN n xs ys = (xs.filter fun x => ys.any fun y => y == x).length
  | 0, xs, ys, hn, _, _ => by
    obtain rfl : xs = [] := List.eq_nil_of_length_eq_zero (by omega)
    rfl
  | n + 1, [], ys, hn, _, _ => rfl
  | n + 1, x :: xs, [], hn, _, _ => by
    rw [show ((x :: xs).filter fun z => ([] : List (List UInt8)).any fun y => y == z) = [] from List.filter_eq_nil_iff.2 (fun _ _ => by simp)]
    rfl
  | n + 1, x :: xs, y :: ys, hn, hx, hy => by
    simp only [List.length_cons] at hn
    obtain ⟨x1, x2⟩ := List.pairwise_cons.1 hx
    obtain ⟨y1, y2⟩ := List.pairwise_cons.1 hy
    have S := sto_bLt
    unfold mrgN
    have no : ∀ {a b : List UInt8}, bLt a b = true → (b == a) = false := fun {a b} h => by
      rw [beq_eq_false_iff_ne]
      intro e
      rw [e, bLt_irrefl] at h
      cases h
    cases h1 : bLt x y
    · cases h2 : bLt y x
      · have e := bLt_tri h1 h2
        subst e
        rw [cond_false, cond_false, mrgN_sets n xs ys (by omega) x2 y2, List.filter_cons, if_pos (by simp), List.length_cons]
        congr 2
        apply List.filter_congr
        intro z hz
        rw [List.any_cons, show (x == z) = false from by
          have := no (x1 z hz)
          rwa [Bool.beq_comm] at this, Bool.false_or]
      · rw [cond_false, cond_true, mrgN_sets n (x :: xs) ys (by simp; omega) hx y2]
        congr 1
        apply List.filter_congr
        intro z hz
        have hyz : bLt y z = true := by
          rcases List.mem_cons.1 hz with rfl | hz
          · exact h2
          · exact S.tr y x z h2 (x1 z hz)
        rw [List.any_cons, show (y == z) = false from by
          have := no hyz
          rwa [Bool.beq_comm] at this, Bool.false_or]
    · rw [cond_true, mrgN_sets n xs (y :: ys) (by simp; omega) x2 hy, List.filter_cons, if_neg]
      intro hc
      rw [List.any_eq_true] at hc
      obtain ⟨z, hz, e⟩ := hc
      rw [beq_iff_eq] at e
      subst e
      rcases List.mem_cons.1 hz with rfl | hz
      · rw [bLt_irrefl] at h1
        cases h1
      · have := S.tr z y z h1 (y1 z hz)
        rw [bLt_irrefl] at this
        cases this
theorem adj_sorted {α : Type} {lt : α → α → Bool} (S : Sto lt) {b : α → α → Bool} (hb : ∀ p x, b p x = false → lt p x = true) : ∀ (xs : List α) (p : α), adjB b p xs = false → SortedS lt (p :: xs)
  | [], p, _ => List.pairwise_cons.2 ⟨fun y h => (by cases h), List.Pairwise.nil⟩
  | x :: xs, p, h => by
    unfold adjB at h
    rw [Bool.or_eq_false_iff] at h
    have ih := adj_sorted S hb xs x h.2
    have hpx := hb p x h.1
    refine List.pairwise_cons.2 ⟨fun y hy => ?_, ih⟩
    rcases List.mem_cons.1 hy with rfl | hy
    · exact hpx
    · exact S.tr p x y hpx ((List.pairwise_cons.1 ih).1 y hy)
theorem tok_sorted {l : List (List UInt8)} (h : tokB l = true) : SortedS bLt l := by
  unfold tokB at h
  cases l with
  | nil => exact List.Pairwise.nil
  | cons x xs =>
    rw [Bool.not_eq_true', adjAny, Bool.or_eq_false_iff] at h
    exact adj_sorted sto_bLt (fun p x hb => by
      rw [Bool.or_eq_false_iff] at hb
      simpa using hb.2) xs x h.2
theorem sort_id {l : List (List UInt8)} (h : SortedS bLt l) : (l.mergeSort fun x y => !(bLt y x)) = l :=
  sortedW_one sto_bLt (List.mergeSort_perm l _) (sort_sorted sto_bLt l) (h.w sto_bLt)
theorem setL_id {l : List (List UInt8)} (h : SortedS bLt l) : setL l = l :=
  sortedS_one sto_bLt (setL_sorted l) h fun x => setL_mem
def interB (a b : List (List UInt8)) : List (List UInt8) := a.filter fun x => b.any fun y => y == x
theorem interB_le (a b : List (List UInt8)) : (interB a b).length ≤ a.length := List.length_filter_le _ _
theorem overlap_t {fu : Nat} {a b : List (List UInt8)} (hf : 4294967296 < fu ∨ a.length + b.length < fu) (ha : a.length ≤ 1048576) (hb : b.length ≤ 1048576) (sa : SortedS bLt a) (sb : SortedS bLt b) : M_impl_overlap fu a b = some ((interB a b).length : Int) := by
  unfold M_impl_overlap M_impl_CommonGrams
  have hfu : a.length + b.length < fu := by omega
  rw [clone_t (by omega), cl_true, clone_t (by omega), cl_true, sortS_t (by omega), cl_true, sortS_t (by omega), cl_true, sort_id sa, sort_id sb, mrg_t (a.length + b.length) fu a b 0 (Nat.le_refl _) hfu (by omega) (by omega), cl_true, cl_true, mrgN_sets _ a b (Nat.le_refl _) sa sb]
  simp [interB]
/-- the union's size -/
theorem unite_len {a b : List (List UInt8)} (sa : SortedS bLt a) (sb : SortedS bLt b) : ((b.foldl (putS bLt) (a.foldl (putS bLt) [])).length : Int) = a.length + b.length - (interB a b).length := by
  obtain ⟨h1, h2⟩ := foldl_putS sto_bLt a [] List.Pairwise.nil
  obtain ⟨h3, h4⟩ := foldl_putS sto_bLt b _ h1
  have hn := SortedS.nodup sto_bLt h3
  have hb2 : (a ++ b.filter fun x => !(a.any fun y => y == x)).Nodup := by
    refine List.nodup_append.2 ⟨SortedS.nodup sto_bLt sa, (SortedS.nodup sto_bLt sb).sublist List.filter_sublist, fun x hx y hy e => ?_⟩
    subst e
    have := (List.mem_filter.1 hy).2
    simp at this
    exact this _ hx rfl
  have hp : (b.foldl (putS bLt) (a.foldl (putS bLt) [])).Perm (a ++ b.filter fun x => !(a.any fun y => y == x)) := by
    refine (List.perm_ext_iff_of_nodup hn hb2).2 fun x => ?_
    rw [h4, h2, List.mem_append, List.mem_filter]
    by_cases hx : x ∈ a
    · simp [hx]
    · simp [hx]
      exact fun _ y hy e => hx (e ▸ hy)
  have hl := hp.length_eq
  rw [List.length_append] at hl
  have e1 : interB a b = interB b a := by
    refine sortedS_one sto_bLt (sa.sublist List.filter_sublist) (sb.sublist List.filter_sublist) fun x => ?_
    unfold interB
    rw [List.mem_filter, List.mem_filter]
    simp
    exact And.comm
  have e2 : (interB b a).length + (b.filter fun x => !(a.any fun y => y == x)).length = b.length := by
    have h : ∀ l : List (List UInt8), (l.filter fun x => a.any fun y => y == x).length + (l.filter fun x => !(a.any fun y => y == x)).length = l.length := by
      intro l
      induction l with
      | nil => rfl
      | cons z l ih =>
        simp only [List.filter_cons, List.length_cons]
        cases a.any fun y => y == z <;> simp <;> omega
    exact h b
  rw [e1]
  omega
theorem specUnite_t {fu : Nat} {a b : List (List UInt8)} (hf : 1048577 ≤ fu) (ha : a.length ≤ 524288) (hb : b.length ≤ 524288) : M_spec_UniteTokens fu a b = some (b.foldl (putS bLt) (a.foldl (putS bLt) [])) := by
  unfold M_spec_UniteTokens
  have grow : ∀ (acc : List (List UInt8)) x, (putS bLt acc x).length ≤ acc.length + 1 := fun acc x => by
    unfold putS putW
    cases (acc[plc bLt x acc]? == some x)
    · rw [cond_false, insAt_length]; exact Nat.le_refl _
    · rw [cond_true]; omega
  have h := loop_fold (xs := a) (g := putS bLt) (Inv := fun i acc => acc.length ≤ i) (L := fun k i acc => M_spec_UniteTokens_L0 fu a k i acc) (fun k i acc x hx hacc => by
    have hi := at_lt hx
    show M_spec_UniteTokens_L0 fu a (k + 1) (i : Int) acc = _
    rw [M_spec_UniteTokens_L0, lt_t hi, cond_true]
    simp only [inR_t hi, gtD_get hx, ck_tt, put_t (show acc.length < fu by omega) (show acc.length ≤ 2147483648 by omega), cl_true, i64B_c (show i ≤ 4294967296 by omega), succ_i, cond_false]) (fun i acc x hx hacc => Nat.le_trans (grow acc x) (Nat.succ_le_succ hacc)) (fun k acc hacc => by show M_spec_UniteTokens_L0 fu a (k + 1) (a.length : Int) acc = _; rw [M_spec_UniteTokens_L0, lt_f]; rfl) (a := []) (Nat.zero_le _) (show a.length < fu by omega)
  have h' := loop_fold (xs := b) (g := putS bLt) (Inv := fun i acc => acc.length ≤ a.length + i) (L := fun k i acc => M_spec_UniteTokens_L1 fu b k i acc) (fun k i acc x hx hacc => by
    have hi := at_lt hx
    show M_spec_UniteTokens_L1 fu b (k + 1) (i : Int) acc = _
    rw [M_spec_UniteTokens_L1, lt_t hi, cond_true]
    simp only [inR_t hi, gtD_get hx, ck_tt, put_t (show acc.length < fu by omega) (show acc.length ≤ 2147483648 by omega), cl_true, i64B_c (show i ≤ 4294967296 by omega), succ_i, cond_false]) (fun i acc x hx hacc => by have := grow acc x; show _ ≤ a.length + (i + 1); omega) (fun k acc hacc => by show M_spec_UniteTokens_L1 fu b (k + 1) (b.length : Int) acc = _; rw [M_spec_UniteTokens_L1, lt_f]; rfl) (a := a.foldl (putS bLt) []) h.2 (show b.length < fu by omega)
  rw [h.1, cl_true, h'.1, cl_true]
def meetB (a b : List (List UInt8)) (t : Int) : Bool := ((tokB a && tokB b) && ((inI a.length 0 1000 && inI b.length 0 1000) && inI t 1 1000)) && decide (t * ((a.length : Int) + b.length - (interB a b).length) ≤ 1000 * ((interB a b).length : Int))
theorem meet_nums {a b : List (List UInt8)} {t : Int} (h1 : inI a.length 0 1000 = true) (h2 : inI b.length 0 1000 = true) (h3 : inI t 1 1000 = true) : (a.length ≤ 1000 ∧ b.length ≤ 1000 ∧ 1 ≤ t ∧ t ≤ 1000) ∧ (∀ n : Int, 0 ≤ n → n ≤ 2000 → 0 ≤ t * n ∧ t * n ≤ 2000000) := by
  unfold inI at *
  simp only [Bool.and_eq_true, decide_eq_true_eq] at *
  refine ⟨⟨by omega, by omega, by omega, by omega⟩, fun n hn hn' => ⟨Int.mul_nonneg (by omega) hn, ?_⟩⟩
  have := Int.mul_le_mul h3.2 hn' hn (by omega)
  omega
theorem specMeet_t {fu : Nat} {a b : List (List UInt8)} {t : Int} (hf : 1048577 ≤ fu) (ha : a.length ≤ 1048576) (hea : ∀ t ∈ a, t.length ≤ 1048576) (hb : b.length ≤ 1048576) (heb : ∀ t ∈ b, t.length ≤ 1048576) : M_spec_MeetsJaccard fu a b t = some (meetB a b t) := by
  unfold M_spec_MeetsJaccard M_spec_l5Sets M_spec_l5Good
  rw [spec_tok hf ha hea, cl_true, spec_tok hf hb heb]
  simp only [bd_eq, l1In_t, cl_true]
  simp only [cl_if]
  unfold meetB
  cases h1 : tokB a
  · rfl
  cases h2 : tokB b
  · rfl
  cases h3 : inI (a.length : Int) 0 1000
  · rfl
  cases h4 : inI (b.length : Int) 0 1000
  · rfl
  cases h5 : inI t 1 1000
  · rfl
  obtain ⟨⟨n1, n2, n3, n4⟩, hm⟩ := meet_nums h3 h4 h5
  have hi := interB_le a b
  have sa := tok_sorted h1
  have sb := tok_sorted h2
  have hu := unite_len sa sb
  obtain ⟨m1, m2⟩ := hm ((a.length : Int) + b.length - (interB a b).length) (by omega) (by omega)
  show (bif false then some false else _) = _
  rw [cond_false, specCommon_t hf ha hb, cl_true, common_eq, setL_id sa, specUnite_t hf (by omega) (by omega)]
  show (ck (i64B (1000 * ((interB a b).length : Int))) _) = _
  rw [ck_t (i64B_t (by omega) (by omega)), cl_true, hu, ck_t (i64B_t (by omega) (by omega))]
  rfl
theorem implMeet_t {fu : Nat} {a b : List (List UInt8)} {t : Int} (hf : 1048577 ≤ fu) (ha : a.length ≤ 1048576) (hea : ∀ t ∈ a, t.length ≤ 1048576) (hb : b.length ≤ 1048576) (heb : ∀ t ∈ b, t.length ≤ 1048576) : M_impl_MeetsJaccard fu a b t = some (meetB a b t) := by
  unfold M_impl_MeetsJaccard M_impl_areTokenSets
  have z1 : M_impl_isSize fu (a.length : Int) = some (inI a.length 0 1000) := rfl
  have z2 : M_impl_isSize fu (b.length : Int) = some (inI b.length 0 1000) := rfl
  have z3 : M_impl_isThreshold fu t = some (inI t 1 1000) := rfl
  rw [impl_tok hf ha hea, cl_true, impl_tok hf hb heb, z1, z2, z3]
  simp only [bd_eq, cl_true]
  simp only [cl_if]
  unfold meetB
  cases h1 : tokB a
  · rfl
  cases h2 : tokB b
  · rfl
  cases h3 : inI (a.length : Int) 0 1000
  · rfl
  cases h4 : inI (b.length : Int) 0 1000
  · rfl
  cases h5 : inI t 1 1000
  · rfl
  obtain ⟨⟨n1, n2, n3, n4⟩, hm⟩ := meet_nums h3 h4 h5
  have hi := interB_le a b
  have sa := tok_sorted h1
  have sb := tok_sorted h2
  obtain ⟨m1, m2⟩ := hm ((a.length : Int) + b.length - (interB a b).length) (by omega) (by omega)
  show (bif false then some false else _) = _
  rw [cond_false, overlap_t (.inr (by omega)) ha hb sa sb, cl_true, ck_t (i64B_t (by omega) (by omega)), ck_t (i64B_t (by omega) (by omega)), ck_t (i64B_t (by omega) (by omega)), ck_t (i64B_t (by omega) (by omega))]
  rfl
end Go.Proofs.YtkebpojbbfnehaaGreat

