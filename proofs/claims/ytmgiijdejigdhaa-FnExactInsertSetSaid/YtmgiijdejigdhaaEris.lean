/- Plain: RemoveSet and InsertSet, program and reference. No statement of the seat is proved here. -/
import Derived.Test.YtmgiijdejigdhaaEsi
import Derived.Test.YtmgiijdejigdhaaEh
namespace Go.Proofs.Ytmgiijdejigdhaa
open Go.RowKit
set_option linter.unusedVariables false
set_option linter.unusedSimpArgs false

abbrev TSet := Int × List (List UInt8)
abbrev TIdR := Int × List (List UInt8 × Int) × List TSet
theorem wr_len {α : Type} {f : α → Nat} {xs : List α} (h : wL f xs ≤ 1048576) : xs.length ≤ 1048576 ∧ ∀ x ∈ xs, f x ≤ 1048576 := by
  unfold wL at h
  exact ⟨by omega, fun x hx => Nat.le_trans (sz_mem hx) (by omega)⟩
theorem idr_ok {x : TIdR} (h : w_SetIndex x ≤ 1048576) : IdxOK x := by
  unfold w_SetIndex w_TokenCountS w_IndexedSetS at h
  have k1 := wr_len (xs := x.2.1) (f := w_TokenCount) (by omega)
  have k2 := wr_len (xs := x.2.2) (f := w_IndexedSet) (by omega)
  refine ⟨k1.1, k2.1, fun s hs => ?_⟩
  have := k2.2 s hs
  unfold w_IndexedSet w_StringS at this
  exact wr_len (xs := s.2) (f := fun s => s.length) this
/-! ### copies -/
theorem clone_i {fu : Nat} {x : TIdR} (hx : IdxOK x) : M_impl_SetIndex_clone fu x = some x := by
  obtain ⟨h1, h2, h3⟩ := hx
  unfold M_impl_SetIndex_clone
  rw [ck_t (lenOK_t (by omega)), ck_t (lenOK_t (by omega)), ck_t (List.all_eq_true.2 fun s hs => lenOK_t (by have := (h3 s hs).1; omega))]
theorem copy_fold : ∀ (l : List TSet) (a : TIdR), l.foldl (fun a s => (a.1, a.2.1, a.2.2 ++ [(s.1, ([] : List (List UInt8)) ++ s.2)])) a = (a.1, a.2.1, a.2.2 ++ l)
  | [], a => by simp
  | s :: l, a => by
    rw [List.foldl_cons, copy_fold l]
    simp
theorem copy_t {fu : Nat} {x : TIdR} (hf : 1048577 ≤ fu) (hx : IdxOK x) : M_spec_l12Copy fu x = some x := by
  obtain ⟨h1, h2, h3⟩ := hx
  have h := loop_fold (xs := x.2.2) (g := fun (a : TIdR) (s : TSet) => (a.1, a.2.1, a.2.2 ++ [(s.1, ([] : List (List UInt8)) ++ s.2)])) (Inv := fun i a => a.2.2.length = i) (L := M_spec_l12Copy_L0 fu x) (fun k i a s hs ha => by
    have hi := at_lt hs
    have hl := (h3 s (at_mem hs)).1
    rw [M_spec_l12Copy_L0, lt_t hi, cond_true, ck_t (inR_t hi), ck_t (inR_t hi), gtD_get hs, ck_t (lenOK_t (by simp; omega)), ck_t (lenOK_t (by rw [List.length_singleton]; omega)), ck_t (i64B_n (by omega)), succ_i]) (fun i a s hs ha => by
    show (a.2.2 ++ [_]).length = i + 1
    rw [List.length_append, List.length_singleton, ha]) (fun k a ha => by rw [M_spec_l12Copy_L0, lt_f]; rfl) (a := (x.1, ([] : List (List UInt8 × Int)) ++ x.2.1, ([] : List TSet))) rfl (show x.2.2.length < fu by omega)
  unfold M_spec_l12Copy
  rw [ck_t (lenOK_t (by simp; omega)), h.1, cl_true, copy_fold]
  rfl
/-! ### places -/
def lowN (l : List TSet) (t : Int) : Nat := (l.takeWhile fun s => decide (s.1 < t)).length
def hitB (l : List TSet) (t : Int) : Bool := decide (lowN l t < l.length) && ((gtD l (lowN l t : Int)).1 == t)
theorem lowN_le (l : List TSet) (t : Int) : lowN l t ≤ l.length := by
  unfold lowN
  exact (List.takeWhile_sublist _).length_le
theorem lowN_ge {t : Int} : ∀ {l : List TSet} {h : Nat} {s : TSet}, l[h]? = some s → ¬ s.1 < t → lowN l t ≤ h
  | [], h, s, hs, hn => by simp at hs
  | x :: l, 0, s, hs, hn => by
    obtain rfl : x = s := by simpa using hs
    unfold lowN
    rw [List.takeWhile_cons, decide_eq_false hn]
    simp
  | x :: l, h + 1, s, hs, hn => by
    have hs : l[h]? = some s := hs
    have ih := lowN_ge (l := l) hs hn
    unfold lowN at ih ⊢
    rw [List.takeWhile_cons]
    split
    · rw [List.length_cons]; omega
    · simp
theorem lowN_gt {t : Int} : ∀ {l : List TSet} {h : Nat} {s : TSet}, l.Pairwise (fun p x => p.1 < x.1) → l[h]? = some s → s.1 < t → h < lowN l t
  | [], h, s, _, hs, hn => by simp at hs
  | x :: l, 0, s, hp, hs, hn => by
    obtain rfl : x = s := by simpa using hs
    unfold lowN
    rw [List.takeWhile_cons, decide_eq_true hn]
    simp
  | x :: l, h + 1, s, hp, hs, hn => by
    have hs : l[h]? = some s := hs
    obtain ⟨h1, h2⟩ := List.pairwise_cons.1 hp
    have hx := h1 s (List.mem_of_getElem? hs)
    have ih := lowN_gt (l := l) h2 hs hn
    unfold lowN at ih ⊢
    rw [List.takeWhile_cons, decide_eq_true (show x.1 < t by omega)]
    simp
    exact ih
theorem mid_t {n : Nat} (h : n ≤ 4194304) : IntKind.i64.wrap ((IntKind.u64.wrap (n : Int)) / 2 ^ min (1 : Int).toNat 64) = ((n / 2 : Nat) : Int) := by
  rw [IntKind.wrap_u64, IntKind.wrap_i64, show ((2 : Int) ^ min (1 : Int).toNat 64) = 2 from rfl]
  omega
theorem bs_loop {fu : Nat} {l : List TSet} {t : Int} {cmp : TSet → Int → Option Int} (hl : l.length ≤ 1048576) (hp : l.Pairwise fun p x => p.1 < x.1) (hc : ∀ s ∈ l, cmp s t = some (s.1 - t)) :
    ∀ (m k i j : Nat), j - i ≤ m → m < k → i ≤ lowN l t → lowN l t ≤ j → j ≤ l.length → M_slices_BinarySearchFunc_impl_IndexedSet_impl_IndexedSet_int_L0 fu l t cmp k (i : Int) (j : Int) = some ((lowN l t : Nat) : Int) := by
  intro m
  induction m with
  | zero =>
    intro k i j hm hk h1 h2 h3
    obtain ⟨k, rfl⟩ : ∃ q, k = q + 1 := ⟨k - 1, by omega⟩
    obtain rfl : i = lowN l t := by omega
    rw [M_slices_BinarySearchFunc_impl_IndexedSet_impl_IndexedSet_int_L0, decide_eq_false (by omega)]
    rfl
  | succ m ih =>
    intro k i j hm hk h1 h2 h3
    obtain ⟨k, rfl⟩ : ∃ q, k = q + 1 := ⟨k - 1, by omega⟩
    rw [M_slices_BinarySearchFunc_impl_IndexedSet_impl_IndexedSet_int_L0]
    by_cases hij : i < j
    · have hmid := mid_t (n := i + j) (by omega)
      have hh : (i + j) / 2 < l.length := by omega
      have hs := List.getElem?_eq_getElem hh
      generalize hq : (i + j) / 2 = q at hmid hh hs
      rw [lt_t hij, cond_true, show (i : Int) + (j : Int) = ((i + j : Nat) : Int) by omega, ck_t (i64B_t (by omega) (by omega)), ck_t (by decide), hmid, ck_t (inR_t hh), gtD_get hs, hc _ (List.getElem_mem hh), cl_true]
      by_cases hlt : (l[q]).1 < t
      · rw [decide_eq_true (by omega), cond_true, ck_t (i64B_n (by omega)), succ_i]
        exact ih k (q + 1) j (by omega) (by omega) (lowN_gt hp hs hlt) h2 h3
      · rw [decide_eq_false (by omega), cond_false]
        exact ih k i q (by omega) (by omega) h1 (lowN_ge hs hlt) (by omega)
    · obtain rfl : i = lowN l t := by omega
      rw [decide_eq_false (by omega)]
      rfl
theorem find_t {fu : Nat} {x : TIdR} {t : Int} (hf : 1048577 ≤ fu) (hl : x.2.2.length ≤ 1048576) (hp : x.2.2.Pairwise fun p s => p.1 < s.1) (hr : ∀ s ∈ x.2.2, 0 ≤ s.1 ∧ s.1 ≤ 999) (ht : 0 ≤ t ∧ t ≤ 999) : M_impl_SetIndex_find fu x t = some ((lowN x.2.2 t : Int), hitB x.2.2 t) := by
  have hc : ∀ s ∈ x.2.2, M_impl_SetIndex_find_1 fu s t = some (s.1 - t) := fun s hs => by
    have := hr s hs
    unfold M_impl_SetIndex_find_1
    rw [ck_t (i64B_t (by omega) (by omega))]
  have hlo := lowN_le x.2.2 t
  have h := bs_loop (fu := fu) (cmp := fun a b => M_impl_SetIndex_find_1 fu a b) hl hp hc x.2.2.length fu 0 x.2.2.length (by omega) (by omega) (by omega) hlo (Nat.le_refl _)
  unfold M_impl_SetIndex_find M_slices_BinarySearchFunc_impl_IndexedSet_impl_IndexedSet_int
  have h : M_slices_BinarySearchFunc_impl_IndexedSet_impl_IndexedSet_int_L0 fu x.2.2 t (fun a b => M_impl_SetIndex_find_1 fu a b) fu (0 : Int) (x.2.2.length : Int) = _ := h
  rw [h, cl_true]
  unfold hitB
  by_cases hlt : lowN x.2.2 t < x.2.2.length
  · have hs := List.getElem?_eq_getElem hlt
    rw [lt_t hlt, ck_t (by rw [inR_t hlt, Bool.or_true]), gtD_get hs, show (true && (true == true)) = true from rfl]
    dsimp only
    rw [hc _ (List.getElem_mem hlt), cl_true, bd_eq, cl_true, decide_eq_true hlt]
    congr 2
    rw [Bool.true_and, Bool.true_and, Bool.eq_iff_iff, beq_iff_eq, beq_iff_eq]
    omega
  · rw [decide_eq_false (show ¬ ((lowN x.2.2 t : Int) < (x.2.2.length : Int)) by omega), ck_t (by rfl), show (true && (false == true)) = false from rfl, cl_false, bd_eq, cl_true, decide_eq_false hlt]
    rfl
theorem l12_t {fu : Nat} {x : TIdR} {t : Int} (hf : 1048577 ≤ fu) (hl : x.2.2.length ≤ 1048576) : M_spec_l12Find fu x t = some (match findB (fun k => (gtD x.2.2 (k : Int)).1 == t) 0 x.2.2.length with | some j => (j : Int) | none => -1) := by
  have h := loop_find (L := M_spec_l12Find_L0 fu x t) (n := x.2.2.length) (P := fun k => (gtD x.2.2 (k : Int)).1 == t) (ret := fun j => (j : Int)) (fun k i hi => by
    rw [M_spec_l12Find_L0, lt_t hi, cond_true, ck_t (inR_t hi), ck_t (i64B_n (by omega)), succ_i]) (fun k => by
    rw [M_spec_l12Find_L0, lt_f]
    rfl) x.2.2.length 0 fu (by omega) (by omega)
  unfold M_spec_l12Find
  have h : M_spec_l12Find_L0 fu x t fu (0 : Int) = _ := h
  rw [h, cl_true]
  cases findB (fun k => (gtD x.2.2 (k : Int)).1 == t) 0 x.2.2.length <;> rfl
theorem findB_noneR {P : Nat → Bool} : ∀ {m i : Nat}, findB P i m = none → ∀ j, i ≤ j → j < i + m → P j = false
  | 0, i, h, j, h1, h2 => by omega
  | m + 1, i, h, j, h1, h2 => by
    unfold findB at h
    cases hp : P i
    · rw [hp] at h
      rcases Nat.lt_or_ge i j with hlt | hge
      · exact findB_noneR (m := m) h j (by omega) (by omega)
      · obtain rfl : j = i := by omega
        exact hp
    · rw [hp] at h
      cases h
theorem find_hit {l : List TSet} {t : Int} (hp : l.Pairwise fun p s => p.1 < s.1) : (match findB (fun k => (gtD l (k : Int)).1 == t) 0 l.length with | some j => (j : Int) | none => -1) = bif hitB l t then (lowN l t : Int) else -1 := by
  have hlow : ∀ j, j < l.length → (gtD l (j : Int)).1 = t → lowN l t = j := fun j hj e => by
    have hs := List.getElem?_eq_getElem hj
    rw [gtD_get hs] at e
    have h1 := lowN_ge (t := t) hs (by omega)
    rcases Nat.lt_or_ge (lowN l t) j with hlt | hge
    · have hs2 := List.getElem?_eq_getElem (show lowN l t < l.length by omega)
      have := List.pairwise_iff_getElem.1 hp (lowN l t) j (by omega) hj hlt
      have := lowN_gt (t := t) hp hs2 (by omega)
      omega
    · omega
  cases hfd : findB (fun k => (gtD l (k : Int)).1 == t) 0 l.length with
  | some j =>
    obtain ⟨_, h2, h3⟩ := findB_lt hfd
    have h3 : (gtD l (j : Int)).1 = t := eq_of_beq h3
    have e := hlow j (by omega) h3
    have : hitB l t = true := by
      unfold hitB
      rw [e, decide_eq_true (show j < l.length by omega), h3, beq_self_eq_true]
      rfl
    rw [this, cond_true, e]
  | none =>
    have : hitB l t = false := by
      unfold hitB
      by_cases hlt : lowN l t < l.length
      · have := findB_noneR hfd (lowN l t) (Nat.zero_le _) (by omega)
        rw [this, Bool.and_false]
      · rw [decide_eq_false hlt]
        rfl
    rw [this]
    rfl
/-! ### valid indexes -/
theorem adj_pw : ∀ (l : List TSet) (p : TSet), adjB (fun p x => setX x || decide (x.1 ≤ p.1)) p l = false → (p :: l).Pairwise (fun p s => p.1 < s.1) ∧ ∀ s ∈ l, setX s = false
  | [], p, _ => ⟨List.pairwise_singleton .., fun s h => by cases h⟩
  | x :: l, p, h => by
    unfold adjB at h
    rw [Bool.or_eq_false_iff, Bool.or_eq_false_iff] at h
    obtain ⟨⟨h1, h2⟩, h3⟩ := h
    obtain ⟨h4, h5⟩ := adj_pw l x h3
    have h2 := of_decide_eq_false h2
    refine ⟨List.pairwise_cons.2 ⟨fun y hy => ?_, h4⟩, fun s hs => ?_⟩
    · rcases List.mem_cons.1 hy with rfl | hy
      · omega
      · have := (List.pairwise_cons.1 h4).1 y hy
        omega
    · rcases List.mem_cons.1 hs with rfl | hs
      · exact h1
      · exact h5 s hs
theorem sets_pw {l : List TSet} (h : setsB l = true) : l.Pairwise (fun p s => p.1 < s.1) ∧ ∀ s ∈ l, 0 ≤ s.1 ∧ s.1 ≤ 999 := by
  unfold setsB at h
  rw [Bool.not_eq_true'] at h
  have key : l.Pairwise (fun p s => p.1 < s.1) ∧ ∀ s ∈ l, setX s = false := by
    cases l with
    | nil => exact ⟨List.Pairwise.nil, fun s h => by cases h⟩
    | cons x l =>
      rw [adjAny, Bool.or_eq_false_iff] at h
      obtain ⟨h4, h5⟩ := adj_pw l x h.2
      refine ⟨h4, fun s hs => ?_⟩
      rcases List.mem_cons.1 hs with rfl | hs
      · exact h.1
      · exact h5 s hs
  refine ⟨key.1, fun s hs => ?_⟩
  have := key.2 s hs
  unfold setX at this
  rw [Bool.or_eq_false_iff, Bool.not_eq_false'] at this
  have := this.1
  unfold inI at this
  simpa using this
theorem idx_pw {x : TIdR} (h : idxB x = true) : x.2.2.length ≤ 12 ∧ x.2.2.Pairwise (fun p s => p.1 < s.1) ∧ ∀ s ∈ x.2.2, 0 ≤ s.1 ∧ s.1 ≤ 999 := by
  unfold idxB at h
  simp only [Bool.and_eq_true, decide_eq_true_eq] at h
  exact ⟨h.2.1, sets_pw h.2.2⟩
/-! ### the functions -/
theorem setID_t {fu : Nat} {t : Int} : M_impl_isSetID fu t = some (inI t 0 999) := rfl
def insV (x : TIdR) (t : Int) (q : List (List UInt8)) : TIdR × Bool := bif (((idxB x && tokB q) && inI t 0 999) && !(x.2.2.length == 12)) && !(hitB x.2.2 t) then ((x.1, x.2.1, x.2.2.take (lowN x.2.2 t) ++ (t, q) :: x.2.2.drop (lowN x.2.2 t)), true) else (x, false)
theorem len12 {n : Nat} : (((n : Int)) == (12 : Int)) = (n == 12) := by
  rw [Bool.eq_iff_iff, beq_iff_eq, beq_iff_eq]
  omega
theorem implIns_t {fu : Nat} {x : TIdR} {t : Int} {q : List (List UInt8)} (hf : 1048577 ≤ fu) (hx : IdxOK x) (hq : q.length ≤ 1048576) (hqe : ∀ s ∈ q, s.length ≤ 1048576) : M_impl_InsertSet fu x t q = some (insV x t q) := by
  unfold M_impl_InsertSet insV
  rw [clone_i hx, cl_true, implIdx_t hf hx, cl_true, impl_tok hf hq hqe, setID_t, len12]
  cases hv : idxB x with
  | false => rfl
  | true =>
    cases htk : tokB q with
    | false => rfl
    | true =>
      cases hi : inI t 0 999 with
      | false => rfl
      | true =>
        cases h12 : (x.2.2.length == 12) with
        | true => rfl
        | false =>
          obtain ⟨h1, h2, h3⟩ := idx_pw hv
          have ht : 0 ≤ t ∧ t ≤ 999 := by unfold inI at hi; simpa using hi
          have hlo := lowN_le x.2.2 t
          rw [show (true && ((!true) == false)) = true from rfl, cl_true, bd_eq, show (true && ((!true || !true) == false)) = true from rfl, cl_true, bd_eq, bd_eq, show (((!true || !true) || !true) || false) = false from rfl, cond_false, find_t hf (by omega) h2 h3 ht, cl_true]
          cases hh : hitB x.2.2 t with
          | true => rfl
          | false =>
            unfold M_slices_Clone_string_string
            rw [cond_false, ck_t (lenOK_t (by simp; omega)), cl_true]
            show ck (subR (lowN x.2.2 t : Int) (x.2.2.length : Int) x.2.2.length) _ = _
            rw [ck_t (subR_iff.2 ⟨by omega, by omega, by omega⟩), ck_t (lenOK_t (by omega))]
            rfl
theorem insL_t {fu : Nat} {x : TIdR} {t : Int} (hl : x.2.2.length ≤ 1048576) (hp : x.2.2.Pairwise fun p s => p.1 < s.1) : ∀ (m k i : Nat), i + m = lowN x.2.2 t → m < k → M_spec_InsertSet_L0 fu t x k (i : Int) = some (lowN x.2.2 t : Int) := by
  have hlo := lowN_le x.2.2 t
  intro m
  induction m with
  | zero =>
    intro k i hi hk
    obtain ⟨k, rfl⟩ : ∃ q, k = q + 1 := ⟨k - 1, by omega⟩
    obtain rfl : i = lowN x.2.2 t := by omega
    rw [M_spec_InsertSet_L0]
    by_cases hlt : lowN x.2.2 t < x.2.2.length
    · have hs := List.getElem?_eq_getElem hlt
      have hn : ¬ (x.2.2[lowN x.2.2 t]).1 < t := fun h => by
        have := lowN_gt hp hs h
        omega
      rw [ck_t (by rw [inR_t hlt, Bool.or_true]), bd_eq, lt_t hlt, gtD_get hs, decide_eq_false hn]
      rfl
    · rw [decide_eq_false (by omega), ck_t (by rfl), bd_eq]
      rfl
  | succ m ih =>
    intro k i hi hk
    obtain ⟨k, rfl⟩ : ∃ q, k = q + 1 := ⟨k - 1, by omega⟩
    have hlt : i < x.2.2.length := by omega
    have hs := List.getElem?_eq_getElem hlt
    have hn : (x.2.2[i]).1 < t := Classical.byContradiction fun h => by
      have := lowN_ge hs h
      omega
    rw [M_spec_InsertSet_L0, ck_t (by rw [inR_t hlt, Bool.or_true]), bd_eq, lt_t hlt, gtD_get hs, decide_eq_true hn, show (true && true) = true from rfl, cond_true, ck_t (i64B_n (by omega)), succ_i]
    exact ih k (i + 1) (by omega) (by omega)
theorem specIns_t {fu : Nat} {x : TIdR} {t : Int} {q : List (List UInt8)} (hf : 1048577 ≤ fu) (hx : IdxOK x) (hq : q.length ≤ 1048576) (hqe : ∀ s ∈ q, s.length ≤ 1048576) : M_spec_InsertSet fu x t q = some (insV x t q) := by
  unfold M_spec_InsertSet insV
  rw [copy_t hf hx, cl_true, specIdx_t hf hx, cl_true, spec_tok hf hq hqe, l1In_t, l12_t hf hx.2.1, len12]
  cases hv : idxB x with
  | false => rfl
  | true =>
    cases htk : tokB q with
    | false => rfl
    | true =>
      cases hi : inI t 0 999 with
      | false => rfl
      | true =>
        obtain ⟨h1, h2, h3⟩ := idx_pw hv
        rw [find_hit h2]
        rw [show (true && ((!true) == false)) = true from rfl, cl_true, bd_eq, show (true && ((!true || !true) == false)) = true from rfl, cl_true, bd_eq, show (true && (((!true || !true) || !true) == false)) = true from rfl, cl_true, bd_eq, bd_eq]
        have hlo := lowN_le x.2.2 t
        cases hh : hitB x.2.2 t with
        | true =>
          rw [cond_true, decide_eq_true (show (0 : Int) ≤ (lowN x.2.2 t : Int) by omega)]
          cases (x.2.2.length == 12) <;> rfl
        | false =>
          cases h12 : (x.2.2.length == 12) with
          | true => rfl
          | false =>
            have hL := insL_t (fu := fu) (t := t) (by omega) h2 (lowN x.2.2 t) fu 0 (by omega) (by omega)
            have hL : M_spec_InsertSet_L0 fu t x fu (0 : Int) = _ := hL
            rw [cond_false, show (((((!true || !true) || !true) || decide ((0 : Int) ≤ -1)) || false)) = false from rfl, cond_false, hL, cl_true]
            have e1 : subL x.2.2 0 (lowN x.2.2 t : Int) = x.2.2.take (lowN x.2.2 t) := by simp [subL]
            have e2 : subL x.2.2 (lowN x.2.2 t : Int) (x.2.2.length : Int) = x.2.2.drop (lowN x.2.2 t) := by
              unfold subL
              rw [Int.toNat_natCast, Int.toNat_natCast]
              exact List.take_of_length_le (by rw [List.length_drop]; omega)
            rw [e1, e2, ck_t (lenOK_t (by simp; omega)), ck_t (subR_iff.2 ⟨by omega, by omega, by omega⟩), ck_t (lenOK_t (by rw [List.length_take, List.length_nil]; omega)), ck_t (lenOK_t (by simp only [List.length_append, List.length_take, List.length_nil, List.length_singleton]; omega)), ck_t (subR_iff.2 ⟨by omega, by omega, by omega⟩), ck_t (lenOK_t (by simp only [List.length_append, List.length_take, List.length_drop, List.length_nil, List.length_singleton]; omega))]
            simp
/-! ### sizes -/
theorem wL_app {α : Type} (f : α → Nat) (a b : List α) : wL f (a ++ b) = wL f a + wL f b := by
  unfold wL
  rw [List.length_append, List.map_append, List.sum_append]
  omega
theorem wL_ins {α : Type} (f : α → Nat) (l : List α) (i : Nat) (x : α) : wL f (l.take i ++ x :: l.drop i) = wL f l + (1 + f x) := by
  have h1 : wL f l = wL f (l.take i) + wL f (l.drop i) := by rw [← wL_app, List.take_append_drop]
  have h2 : wL f (x :: l.drop i) = wL f (l.drop i) + (1 + f x) := by
    unfold wL
    rw [List.length_cons, List.map_cons, List.sum_cons]
    omega
  rw [wL_app, h2]
  omega
theorem hs_InsertSet {fu : Nat} {a0 : TIdR} {a1 : Int} {a2 : List (List UInt8)} (hf : 1048577 ≤ fu) (h0 : (qP qI (qP (qS (qP qB qI)) (qS (qP qI (qS qB))))) a0) (h1 : qI a1) (h2 : (qS qB) a2) (hw : w_SetIndex a0 + w_StringS a2 ≤ 1048576) : ∃ r : TIdR × Bool, M_spec_InsertSet fu a0 a1 a2 = some r ∧ M_impl_InsertSet fu a0 a1 a2 = some r ∧ w_SetIndex r.1 ≤ 1100000 := by
  have hq : a2.length ≤ 1048576 ∧ ∀ s ∈ a2, s.length ≤ 1048576 := by
    unfold w_StringS at hw
    exact wr_len (xs := a2) (f := fun s => s.length) (by omega)
  have hx := idr_ok (x := a0) (by omega)
  refine ⟨_, specIns_t hf hx hq.1 hq.2, implIns_t hf hx hq.1 hq.2, ?_⟩
  unfold insV
  cases (((idxB a0 && tokB a2) && inI a1 0 999) && !(a0.2.2.length == 12)) && !(hitB a0.2.2 a1) with
  | false => show w_SetIndex a0 ≤ 1100000; omega
  | true =>
    rw [cond_true]
    unfold w_SetIndex w_IndexedSetS at hw ⊢
    have := wL_ins w_IndexedSet a0.2.2 (lowN a0.2.2 a1) (a1, a2)
    have e : w_IndexedSet (a1, a2) = w_StringS a2 := rfl
    show w_TokenCountS a0.2.1 + wL w_IndexedSet (a0.2.2.take (lowN a0.2.2 a1) ++ (a1, a2) :: a0.2.2.drop (lowN a0.2.2 a1)) ≤ 1100000
    omega
end Go.Proofs.Ytmgiijdejigdhaa
