/- Plain: sets of strings as sorted lists, program and reference. No statement of the seat is proved here. -/
import Derived.Test.YtkebpojbbfnehaaGreatEz
import Derived.Test.YtkebpojbbfnehaaGreatPe
namespace Go.Proofs.YtkebpojbbfnehaaGreat
open Go.RowKit
set_option linter.unusedVariables false
set_option linter.unusedSimpArgs false

theorem subL_take {α : Type} (xs : List α) (k : Nat) : subL xs 0 (k : Int) = xs.take k := by simp [subL]
theorem subL_drop {α : Type} (xs : List α) (k : Nat) : subL xs (k : Int) (xs.length : Int) = xs.drop k := by
  unfold subL
  rw [Int.toNat_natCast, Int.toNat_natCast]
  exact List.take_of_length_le (by simp)
theorem subR_k {α : Type} {xs : List α} {k : Nat} (h : k ≤ xs.length) : subR 0 (k : Int) xs.length = true := subR_iff.2 ⟨by omega, by omega, by omega⟩
theorem subR_d {α : Type} {xs : List α} {k : Nat} (h : k ≤ xs.length) : subR (k : Int) (xs.length : Int) xs.length = true := subR_iff.2 ⟨by omega, by omega, by omega⟩
theorem loop_plc {α : Type} {lt : α → α → Bool} {x : α} {l : List α} {L : Nat → Int → Option Int} (hs : ∀ k (i : Nat) y, l[i]? = some y → L (k + 1) (i : Int) = bif lt y x then L k ((i + 1 : Nat) : Int) else some (i : Int)) (he : ∀ k, L (k + 1) (l.length : Int) = some (l.length : Int)) {fu : Nat} (hf : l.length < fu) :
    L fu (0 : Int) = some ((plc lt x l : Nat) : Int) := by
  have key : ∀ m i k, i + m = l.length → m < k → L k ((i : Nat) : Int) = some ((i + plc lt x (l.drop i) : Nat) : Int) := by
    intro m
    induction m with
    | zero =>
      intro i k hi hk
      obtain ⟨k, rfl⟩ : ∃ q, k = q + 1 := ⟨k - 1, by omega⟩
      obtain rfl : i = l.length := by omega
      rw [he, List.drop_length]
      rfl
    | succ m ih =>
      intro i k hi hk
      obtain ⟨k, rfl⟩ : ∃ q, k = q + 1 := ⟨k - 1, by omega⟩
      have hx := List.getElem?_eq_getElem (show i < l.length by omega)
      rw [hs k i _ hx, drop_cons hx, plc]
      cases lt l[i] x
      · rfl
      · rw [cond_true, cond_true, ih (i + 1) k (by omega) (by omega)]
        congr 2
        omega
  have := key l.length 0 fu (by omega) hf
  rwa [show ((0 : Nat) : Int) = 0 from rfl, List.drop_zero, Nat.zero_add] at this
theorem put_t {fu : Nat} {l : List (List UInt8)} {x : List UInt8} {tw : Bool} (hf : l.length < fu) (hl : l.length ≤ 2147483648) : M_spec_l3Put fu l x tw = some (bif tw then putW bLt l x else putS bLt l x) := by
  unfold M_spec_l3Put
  have h := loop_plc (lt := bLt) (x := x) (l := l) (L := M_spec_l3Put_L0 fu l x) (fun k i y hy => by
    have hi := at_lt hy
    rw [M_spec_l3Put_L0]
    simp only [lt_t hi, inR_t hi, gtD_get hy, bd_eq, Bool.or_true, Bool.true_and, ck_tt, i64B_c (show i ≤ 4294967296 by omega), succ_i]) (fun k => by rw [M_spec_l3Put_L0, lt_f]; rfl) hf
  have hp := plc_le (lt := bLt) (x := x) l
  rw [h, cl_true]
  simp only [bd_eq, subL_take, subL_drop, subR_k hp, subR_d hp, ck_tt, List.length_nil, List.length_append, List.length_take, List.length_drop, List.length_singleton, List.nil_append, Nat.zero_add, lenOK_t (show min (plc bLt x l) l.length ≤ 4294967296 by omega), lenOK_t (show min (plc bLt x l) l.length + 1 ≤ 4294967296 by omega), lenOK_t (show min (plc bLt x l) l.length + 1 + (l.length - plc bLt x l) ≤ 4294967296 by omega)]
  have hins : l.take (plc bLt x l) ++ [x] ++ l.drop (plc bLt x l) = putW bLt l x := by simp [putW, insAt]
  rw [hins]
  unfold putS
  by_cases hlt : plc bLt x l < l.length
  · have hg := List.getElem?_eq_getElem hlt
    rw [lt_t hlt, inR_t hlt, gtD_get hg, hg]
    have : (some l[plc bLt x l] == some x) = (l[plc bLt x l] == x) := rfl
    rw [this]
    cases tw <;> cases (l[plc bLt x l] == x) <;> rfl
  · have e : decide (((plc bLt x l : Nat) : Int) < (l.length : Int)) = false := decide_eq_false (by omega)
    have e2 : l[plc bLt x l]? = none := List.getElem?_eq_none (by omega)
    rw [e, e2]
    cases tw <;> rfl
theorem has_t {fu : Nat} {l : List (List UInt8)} {x : List UInt8} (hf : l.length < fu) (hl : l.length ≤ 2147483648) : M_spec_l3Has fu l x = some (l.any fun y => y == x) := by
  unfold M_spec_l3Has
  have h := loop_any (xs := l) (p := fun y => y == x) (r := true) (L := M_spec_l3Has_L0 fu l x) (fun k i y hy => by
    have hi := at_lt hy
    rw [M_spec_l3Has_L0, lt_t hi, cond_true]
    simp only [inR_t hi, gtD_get hy, ck_tt, i64B_c (show i ≤ 4294967296 by omega), succ_i]) (fun k => by rw [M_spec_l3Has_L0, lt_f]; rfl) hf
  rw [h, cl_true]
  cases l.any fun y => y == x <;> rfl
theorem any_mem {l : List (List UInt8)} {x : List UInt8} : (l.any fun y => y == x) = true ↔ x ∈ l := by simp
/-- a list of at most n strings -/
theorem specCommon_t {fu : Nat} {a b : List (List UInt8)} (hf : 1048577 ≤ fu) (ha : a.length ≤ 1048576) (hb : b.length ≤ 1048576) : M_spec_CommonTokens fu a b = some ((a.filter fun x => b.any fun y => y == x).foldl (putS bLt) []) := by
  unfold M_spec_CommonTokens
  have h := loop_fold (xs := a) (g := fun (acc : List (List UInt8)) x => bif (b.any fun y => y == x) then putS bLt acc x else acc) (Inv := fun i acc => acc.length ≤ i) (L := fun k i acc => M_spec_CommonTokens_L0 fu a b k i acc) (fun k i acc x hx hacc => by
    have hi := at_lt hx
    show M_spec_CommonTokens_L0 fu a b (k + 1) (i : Int) acc = _
    rw [M_spec_CommonTokens_L0, lt_t hi, cond_true]
    simp only [inR_t hi, gtD_get hx, ck_tt, has_t (show b.length < fu by omega) (show b.length ≤ 2147483648 by omega), put_t (show acc.length < fu by omega) (show acc.length ≤ 2147483648 by omega), cl_true, i64B_c (show i ≤ 4294967296 by omega), succ_i, cond_false]
    cases b.any fun y => y == x <;> rfl) (fun i acc x hx hacc => by
    show (bif (b.any fun y => y == x) then putS bLt acc x else acc).length ≤ i + 1
    cases b.any fun y => y == x
    · exact Nat.le_succ_of_le hacc
    · rw [cond_true]
      unfold putS putW
      cases (acc[plc bLt x acc]? == some x)
      · rw [cond_false, insAt_length]; omega
      · exact Nat.le_succ_of_le hacc) (fun k acc hacc => by show M_spec_CommonTokens_L0 fu a b (k + 1) (a.length : Int) acc = _; rw [M_spec_CommonTokens_L0, lt_f]; rfl) (a := []) (Nat.zero_le _) (show a.length < fu by omega)
  rw [h.1, cl_true, List.foldl_filter]
  congr 1
  have : (fun (acc : List (List UInt8)) x => bif (b.any fun y => y == x) then putS bLt acc x else acc) = fun acc x => if (b.any fun y => y == x) = true then putS bLt acc x else acc := by
    funext acc x
    cases b.any fun y => y == x <;> rfl
  rw [this]
/-! the library's ways -/
theorem clone_t {fu : Nat} {l : List (List UInt8)} (hl : l.length ≤ 4294967296) : M_slices_Clone_string_string fu l = some l := by
  unfold M_slices_Clone_string_string
  rw [List.nil_append, ck_t (lenOK_t (by simpa using hl))]
theorem sortS_t {fu : Nat} {l : List (List UInt8)} (hl : l.length ≤ 4294967296) : M_sortS fu l = some (l.mergeSort fun x y => !(bLt y x)) := by
  unfold M_sortS
  rw [ck_t (lenOK_t hl)]
  have : (fun x y : List UInt8 => decide (x ≤ y)) = fun x y => !(bLt y x) := by
    funext x y
    exact le_bLt x y
  rw [this]
theorem contains_t {fu : Nat} {l : List (List UInt8)} {x : List UInt8} (hf : l.length < fu) (hl : l.length ≤ 2147483648) : M_slices_Contains_string_string fu l x = some (l.any fun y => y == x) := by
  unfold M_slices_Contains_string_string M_slices_Index_string_string
  have h := loop_ix (xs := l) (p := fun y => x == y) (L := M_slices_Index_string_string_L0 fu l x) (fun k i y hy => by
    have hi := at_lt hy
    rw [M_slices_Index_string_string_L0, lt_t hi, cond_true]
    simp only [inR_t hi, gtD_get hy, ck_tt, i64B_c (show i ≤ 4294967296 by omega), succ_i]) (fun k => by rw [M_slices_Index_string_string_L0, lt_f]; rfl) hf
  rw [h, cl_true]
  have hc : (fun y : List UInt8 => x == y) = fun y => y == x := by
    funext y
    exact Bool.beq_comm
  rw [hc]
  cases hi : ixI 0 (l.map fun y => y == x) with
  | none =>
    have h2 := ixI_none hi
    have : (l.any fun y => y == x) = false := by
      rw [List.any_eq_false]
      intro y hy
      have := h2 (y == x) (List.mem_map_of_mem hy)
      simp [this]
    rw [this]
    rfl
  | some j =>
    obtain ⟨_, h2, _⟩ := ixI_some hi
    have : (l.any fun y => y == x) = true := by
      rw [Nat.sub_zero, List.getElem?_map] at h2
      obtain ⟨y, hy, e⟩ := Option.map_eq_some_iff.1 h2
      rw [List.any_eq_true]
      exact ⟨y, List.mem_of_getElem? hy, e⟩
    rw [this]
    show some (decide (0 ≤ (j : Int))) = some true
    rw [decide_eq_true (by omega)]
/-- the rest, with zeros behind -/
theorem sub_zeros {α : Type} {z : α} {s : List α} {w : Nat} (h : w ≤ s.length) : subL (s.take w ++ List.replicate (s.length - w) z) 0 (w : Int) = s.take w := by
  rw [subL_take, List.take_append_of_le_length (by simp; omega), List.take_take, Nat.min_self]
theorem zeros_length {α : Type} {z : α} {s : List α} {w : Nat} (h : w ≤ s.length) : (s.take w ++ List.replicate (s.length - w) z).length = s.length := by simp; omega
theorem compact1_t {fu : Nat} {s : List (List UInt8)} {i : Nat} (hl : s.length ≤ 1048576) (hi0 : 0 < i) : ∀ m j w k ys q, i + j + m = s.length → m < k → 1 ≤ j → w ≤ i + j - 1 → ys.length = s.length → ys.drop (i + j - 1) = s.drop (i + j - 1) → s[i + j - 1]? = some q → ys.take w ++ cmpA q (s.drop (i + j)) = cmpL s →
    ∃ (w' : Nat) (ys' : List (List UInt8)), M_slices_Compact_string_string_L1 fu (i : Int) (s.length - i) k (w : Int) (j : Int) ys = some ((w' : Int), ys') ∧ ys'.length = s.length ∧ w' ≤ s.length ∧ ys'.take w' = cmpL s := by
  intro m
  induction m with
  | zero =>
    intro j w k ys q hm hk hj hw hlen hdr hq hc
    obtain ⟨k, rfl⟩ : ∃ q, k = q + 1 := ⟨k - 1, by omega⟩
    refine ⟨w, ys, ?_, hlen, by omega, ?_⟩
    · rw [M_slices_Compact_string_string_L1, decide_eq_false (show ¬ (j : Int) < ((s.length - i : Nat) : Int) by omega)]
      rfl
    · rw [show i + j = s.length by omega, List.drop_length] at hc
      simpa [cmpA] using hc
  | succ m ih =>
    intro j w k ys q hm hk hj hw hlen hdr hq hc
    obtain ⟨k, rfl⟩ : ∃ q, k = q + 1 := ⟨k - 1, by omega⟩
    have hx := List.getElem?_eq_getElem (show i + j < s.length by omega)
    have hat : ∀ n, i + j - 1 ≤ n → ys[n]? = s[n]? := fun n hn => by
      have := congrArg (fun l => l[n - (i + j - 1)]?) hdr
      simp only [List.getElem?_drop] at this
      rwa [show i + j - 1 + (n - (i + j - 1)) = n by omega] at this
    have hyx : ys[i + j]? = some s[i + j] := (hat _ (by omega)).trans hx
    have hyq : ys[i + j - 1]? = some q := (hat _ (Nat.le_refl _)).trans hq
    have e1 : ((i : Int) + (j : Int)) = ((i + j : Nat) : Int) := rfl
    have e2 : ((i : Int) + ((j : Int) - 1)) = ((i + j - 1 : Nat) : Int) := by omega
    rw [M_slices_Compact_string_string_L1, decide_eq_true (show (j : Int) < ((s.length - i : Nat) : Int) by omega), cond_true, ck_t (inR_i (by omega) (by omega)), ck_t (decide_eq_true (by omega)), e1, ck_t (inR_t (by omega)), ck_t (i64B_t (by omega) (by omega)), ck_t (inR_i (by omega) (by omega)), ck_t (decide_eq_true (by omega)), e2, ck_t (inR_t (by omega)), gtD_get hyx, gtD_get hyq]
    rw [drop_cons hx, cmpA] at hc
    cases hb : (s[i + j] == q)
    · rw [Bool.not_false, cond_true, ck_t (inR_i (by omega) (by omega)), ck_t (decide_eq_true (by omega)), ck_t (inR_t (by omega)), ck_t (inR_t (by omega)), ck_t (i64B_n (by omega)), ck_t (i64B_n (by omega)), succ_i, succ_i, set_nat]
      rw [hb, cond_false] at hc
      have := ih (j + 1) (w + 1) k (ys.set w s[i + j]) s[i + j] (by omega) (by omega) (by omega) (by omega) (by rw [List.length_set]; exact hlen) ?_ ?_ ?_
      · exact this
      · rw [List.drop_set_of_lt (by omega)]
        have := congrArg (fun l => l.drop 1) hdr
        simp only [List.drop_drop] at this
        rwa [show i + (j + 1) - 1 = i + j - 1 + 1 by omega]
      · rw [show i + (j + 1) - 1 = i + j by omega]
        exact hx
      · rw [List.take_add_one, List.take_set_of_le (Nat.le_refl _), List.getElem?_set_self (by omega)]
        simpa [Nat.add_assoc] using hc
    · rw [Bool.not_true, cond_false, ck_t (i64B_n (by omega)), succ_i]
      rw [hb, cond_true] at hc
      refine ih (j + 1) w k ys s[i + j] (by omega) (by omega) (by omega) (by omega) hlen ?_ ?_ hc
      · have := congrArg (fun l => l.drop 1) hdr
        simp only [List.drop_drop] at this
        rwa [show i + (j + 1) - 1 = i + j - 1 + 1 by omega]
      · rw [show i + (j + 1) - 1 = i + j by omega]
        exact hx
theorem compact_t {fu : Nat} {s : List (List UInt8)} (hf : 1048577 ≤ fu) (hl : s.length ≤ 1048576) : M_slices_Compact_string_string fu s = some (cmpL s) := by
  unfold M_slices_Compact_string_string
  by_cases h2 : s.length < 2
  · rw [decide_eq_true (by omega), cond_true]
    match s, h2 with
    | [], _ => rfl
    | [x], _ => rfl
  · rw [decide_eq_false (by omega), cond_false]
    have key : ∀ m i k q, i + m = s.length → m < k → 0 < i → s[i - 1]? = some q → s.take i ++ cmpA q (s.drop i) = cmpL s →
        M_slices_Compact_string_string_L0 fu k (i : Int) s = some (Ex.ret (cmpL s)) ∨ (M_slices_Compact_string_string_L0 fu k (i : Int) s = some (Ex.go s) ∧ cmpL s = s) := by
      intro m
      induction m with
      | zero =>
        intro i k q hm hk hi hq hc
        obtain ⟨k, rfl⟩ : ∃ q, k = q + 1 := ⟨k - 1, by omega⟩
        obtain rfl : i = s.length := by omega
        right
        refine ⟨by rw [M_slices_Compact_string_string_L0, lt_f]; rfl, ?_⟩
        rw [List.drop_length, List.take_length] at hc
        simpa [cmpA] using hc.symm
      | succ m ih =>
        intro i k q hm hk hi hq hc
        obtain ⟨k, rfl⟩ : ∃ q, k = q + 1 := ⟨k - 1, by omega⟩
        have hlt : i < s.length := by omega
        have hx := List.getElem?_eq_getElem hlt
        have e1 : ((i : Int) - 1) = ((i - 1 : Nat) : Int) := by omega
        rw [M_slices_Compact_string_string_L0, lt_t hlt, cond_true, ck_t (inR_t hlt), ck_t (i64B_t (by omega) (by omega)), e1, ck_t (inR_t (by omega)), gtD_get hx, gtD_get hq]
        have hc' := hc
        rw [drop_cons hx, cmpA] at hc
        cases hb : (s[i] == q)
        · rw [cond_false, ck_t (i64B_n (by omega)), succ_i]
          rw [hb, cond_false] at hc
          refine ih (i + 1) k s[i] (by omega) (by omega) (by omega) (by rw [Nat.add_sub_cancel]; exact hx) ?_
          have ht : s.take (i + 1) = s.take i ++ [s[i]] := by rw [List.take_add_one, hx]; rfl
          rw [ht, List.append_assoc]
          exact hc
        · left
          rw [hb, cond_true] at hc
          obtain ⟨w', ys', h3, h4, h5, h6⟩ := compact1_t (fu := fu) hl hi (s.length - i - 1) 1 i fu s s[i] (by omega) (by omega) (Nat.le_refl _) (by omega) rfl rfl (by rw [Nat.add_sub_cancel]; exact hx) hc
          rw [cond_true, ck_t (subR_d (Nat.le_of_lt hlt)), bd_eq, Int.toNat_natCast, Int.toNat_natCast, show ((1 : Int)) = ((1 : Nat) : Int) from rfl, h3, cl_true]
          simp only [h4, subR_iff.2 ⟨show (0 : Int) ≤ (w' : Int) by omega, show (w' : Int) ≤ (s.length : Int) by omega, show (s.length : Int) ≤ (s.length : Int) from Int.le_refl _⟩, bd_eq, Int.toNat_natCast, ck_tt, beq_self_eq_true]
          have e3 : (ys'.take w' ++ List.replicate (s.length - w') ([] : List UInt8)) = (ys'.take w' ++ List.replicate (ys'.length - w') ([] : List UInt8)) := by rw [h4]
          rw [e3, ck_t (by rw [zeros_length (by omega)]; exact subR_k (by omega)), sub_zeros (by omega), h6]
    obtain ⟨x0, t, hs⟩ : ∃ x t, s = x :: t := by
      cases s with
      | nil => simp at h2
      | cons x t => exact ⟨x, t, rfl⟩
    have hk := key (s.length - 1) 1 fu x0 (by omega) (by omega) (by omega) (by rw [hs]; rfl) (by rw [hs]; rfl)
    rw [show ((1 : Int)) = ((1 : Nat) : Int) from rfl]
    rcases hk with h | ⟨h, e⟩
    · rw [h]
      rfl
    · rw [h, e]
      rfl
theorem sortedSet_t {fu : Nat} {l : List (List UInt8)} (hf : 1048577 ≤ fu) (hl : l.length ≤ 1048576) : M_impl_sortedSet fu l = some (cmpL (l.mergeSort fun x y => !(bLt y x))) := by
  unfold M_impl_sortedSet
  rw [clone_t (by omega), cl_true, sortS_t (by omega), cl_true, compact_t hf (by rw [List.length_mergeSort]; exact hl)]
  rfl
/-- the set of a list -/
def setL (l : List (List UInt8)) : List (List UInt8) := cmpL (l.mergeSort fun x y => !(bLt y x))
theorem setL_sorted (l : List (List UInt8)) : SortedS bLt (setL l) := cmpL_sorted sto_bLt (sort_sorted sto_bLt l)
theorem setL_mem {l : List (List UInt8)} {x : List UInt8} : x ∈ setL l ↔ x ∈ l := by
  unfold setL
  rw [cmpL_mem, List.mem_mergeSort]
theorem cmpL_length {l : List (List UInt8)} : (cmpL l).length ≤ l.length := by
  cases l with
  | nil => exact Nat.le_refl _
  | cons x xs =>
    have := cmpA_length (p := x) (l := xs)
    simp [cmpL]
    omega
theorem setL_length (l : List (List UInt8)) : (setL l).length ≤ l.length := by
  have := cmpL_length (l := l.mergeSort fun x y => !(bLt y x))
  rwa [List.length_mergeSort] at this
theorem deleteFunc_t {fu : Nat} {s : List (List UInt8)} {F : List UInt8 → Option Bool} {d : List UInt8 → Bool} (hf : 1048577 ≤ fu) (hl : s.length ≤ 1048576) (hF : ∀ x ∈ s, F x = some (d x)) : M_slices_DeleteFunc_string_string fu s F = some (s.filter fun x => !(d x)) := by
  unfold M_slices_DeleteFunc_string_string M_slices_IndexFunc_string_string
  have h := loop_ix (xs := s) (p := d) (L := M_slices_IndexFunc_string_string_L0 fu s F) (fun k i y hy => by
    have hi := at_lt hy
    rw [M_slices_IndexFunc_string_string_L0, lt_t hi, cond_true]
    simp only [inR_t hi, gtD_get hy, ck_tt, hF y (at_mem hy), cl_true, i64B_c (show i ≤ 4294967296 by omega), succ_i]) (fun k => by rw [M_slices_IndexFunc_string_string_L0, lt_f]; rfl) (show s.length < fu by omega)
  rw [h, cl_true]
  cases hix : ixI 0 (s.map d) with
  | none =>
    have h2 := ixI_none hix
    show (cl true (some (-1 : Int)) fun x1 => _) = _
    rw [cl_true]
    show some s = _
    congr 1
    symm
    rw [List.filter_eq_self]
    intro x hx
    rw [h2 (d x) (List.mem_map_of_mem hx)]
    rfl
  | some j =>
    obtain ⟨_, h2, h3⟩ := ixI_some hix
    rw [Nat.sub_zero] at h2 h3
    have hj : j < s.length := by have := at_lt h2; simpa using this
    have hj' := List.getElem?_eq_getElem hj
    have hdj : d s[j] = true := by
      rw [List.getElem?_map, hj'] at h2
      simpa using h2
    have hpre : s.take j = (s.take j).filter fun x => !(d x) := by
      symm
      rw [List.filter_eq_self]
      intro x hx
      obtain ⟨q, hq⟩ := List.mem_iff_getElem?.1 hx
      rw [List.getElem?_take] at hq
      split at hq
      · rename_i hql
        have := h3 q hql
        rw [List.getElem?_map, hq] at this
        have : d x = false := by simpa using this
        rw [this]
        rfl
      · cases hq
    show (cl true (some (j : Int)) fun x1 => _) = _
    rw [cl_true]
    have e0 : ((j : Int) == -1) = false := by
      rw [beq_eq_false_iff_ne]
      omega
    rw [e0, cond_false, ck_t (i64B_n (by omega)), succ_i]
    have key : ∀ m i w k ys, i + m = s.length → m < k → w ≤ i → ys.length = s.length → ys.drop i = s.drop i → ys.take w = (s.take i).filter (fun x => !(d x)) →
        ∃ (w' : Nat) (ys' : List (List UInt8)), M_slices_DeleteFunc_string_string_L0 fu F k (w : Int) (i : Int) ys = some ((w' : Int), ys') ∧ ys'.length = s.length ∧ w' ≤ s.length ∧ ys'.take w' = s.filter fun x => !(d x) := by
      intro m
      induction m with
      | zero =>
        intro i w k ys hm hk hw hlen hdr hc
        obtain ⟨k, rfl⟩ : ∃ q, k = q + 1 := ⟨k - 1, by omega⟩
        obtain rfl : i = s.length := by omega
        refine ⟨w, ys, by rw [M_slices_DeleteFunc_string_string_L0, ← hlen, lt_f]; rfl, hlen, hw, ?_⟩
        rw [List.take_length] at hc
        exact hc
      | succ m ih =>
        intro i w k ys hm hk hw hlen hdr hc
        obtain ⟨k, rfl⟩ : ∃ q, k = q + 1 := ⟨k - 1, by omega⟩
        have hlt : i < s.length := by omega
        have hx := List.getElem?_eq_getElem hlt
        have hyx : ys[i]? = some s[i] := by
          have := congrArg (fun l => l[0]?) hdr
          simp only [List.getElem?_drop, Nat.add_zero] at this
          rw [this, hx]
        have hdr' : ∀ zs : List (List UInt8), zs.drop i = s.drop i → zs.drop (i + 1) = s.drop (i + 1) := fun zs hz => by
          have := congrArg (fun l => l.drop 1) hz
          simpa only [List.drop_drop] using this
        rw [M_slices_DeleteFunc_string_string_L0, lt_t (by omega), cond_true, ck_t (inR_t (by omega)), gtD_get hyx, hF _ (at_mem hx), cl_true]
        have ht : (s.take (i + 1)).filter (fun x => !(d x)) = (s.take i).filter (fun x => !(d x)) ++ (bif d s[i] then [] else [s[i]]) := by
          rw [List.take_add_one, hx, List.filter_append]
          congr 1
          show [s[i]].filter _ = _
          rw [List.filter_cons]
          cases d s[i] <;> rfl
        cases hd : d s[i]
        · rw [Bool.not_false, cond_true, ck_t (inR_t (by omega)), ck_t (i64B_n (by omega)), ck_t (i64B_n (by omega)), succ_i, succ_i, set_nat]
          refine ih (i + 1) (w + 1) k _ (by omega) (by omega) (by omega) (by rw [List.length_set]; exact hlen) ?_ ?_
          · rw [List.drop_set_of_lt (by omega)]
            exact hdr' ys hdr
          · rw [List.take_add_one, List.take_set_of_le (Nat.le_refl _), List.getElem?_set_self (by omega), ht, hd, hc]
            rfl
        · rw [Bool.not_true, cond_false, ck_t (i64B_n (by omega)), succ_i]
          refine ih (i + 1) w k _ (by omega) (by omega) (by omega) hlen (hdr' ys hdr) ?_
          rw [ht, hd, hc]
          simp
    have hstart : (s.take (j + 1)).filter (fun x => !(d x)) = s.take j := by
      rw [List.take_add_one, hj', List.filter_append, ← hpre]
      simp [hdj]
    obtain ⟨w', ys', h4, h5, h6, h7⟩ := key (s.length - (j + 1)) (j + 1) j fu s (by omega) (by omega) (by omega) rfl rfl hstart.symm
    rw [h4, cl_true]
    simp only [h5, subR_iff.2 ⟨show (0 : Int) ≤ (w' : Int) by omega, show (w' : Int) ≤ (s.length : Int) by omega, show (s.length : Int) ≤ (s.length : Int) from Int.le_refl _⟩, bd_eq, Int.toNat_natCast, ck_tt, beq_self_eq_true]
    have e3 : (ys'.take w' ++ List.replicate (s.length - w') ([] : List UInt8)) = (ys'.take w' ++ List.replicate (ys'.length - w') ([] : List UInt8)) := by rw [h5]
    rw [e3, ck_t (by rw [zeros_length (by omega)]; exact subR_k (by omega)), sub_zeros (by omega), h7]
theorem implCommon_t {fu : Nat} {a b : List (List UInt8)} (hf : 1048577 ≤ fu) (ha : a.length ≤ 1048576) (hb : b.length ≤ 1048576) : M_impl_CommonTokens fu a b = some ((setL a).filter fun x => b.any fun y => y == x) := by
  unfold M_impl_CommonTokens
  rw [sortedSet_t hf ha, cl_true, show cmpL (a.mergeSort fun x y => !(bLt y x)) = setL a from rfl, deleteFunc_t (d := fun x => !(b.any fun y => y == x)) hf (by have := setL_length a; omega) (fun x _ => by
    unfold M_impl_CommonTokens_1
    rw [contains_t (by omega) (by omega)]
    rfl), cl_true]
  simp only [Bool.not_not]
theorem common_eq (a b : List (List UInt8)) : (a.filter fun x => b.any fun y => y == x).foldl (putS bLt) [] = (setL a).filter fun x => b.any fun y => y == x := by
  obtain ⟨h1, h2⟩ := foldl_putS sto_bLt (a.filter fun x => b.any fun y => y == x) [] List.Pairwise.nil
  refine sortedS_one sto_bLt h1 ((setL_sorted a).sublist List.filter_sublist) fun x => ?_
  rw [h2, List.mem_filter, List.mem_filter, setL_mem]
  simp
end Go.Proofs.YtkebpojbbfnehaaGreat

