/- Plain: sets of strings as sorted lists, program and reference. No statement of the seat is proved here. -/
import Derived.Test.YtofiipblinonoaaOz
import Derived.Test.YtofiipblinonoaaPe
namespace Go.Proofs.Ytofiipblinonoaa
open Go.RowKit
set_option linter.unusedVariables false
set_option linter.unusedSimpArgs false

theorem subL_take {α : Type} (xs : List α) (k : Nat) : subL xs 0 (k : Int) = xs.take k := by simp [subL]
theorem subL_drop {α : Type} (xs : List α) (k : Nat) : subL xs (k : Int) (xs.length : Int) = xs.drop k := by
  unfold subL
  rw [Int.toNat_natCast, Int.toNat_natCast]
  exact List.take_of_length_le (by simp)
theorem subR_k {α : Type} {xs : List α} {k : Nat} (h : k ≤ xs.length) : subR 0 (k : Int) xs.length = true := subR_iff.2 ⟨by omega, by omega, by omega⟩
theorem subR_d {α : Type} {xs : List α} {k : Nat} (h : k ≤ xs.length) : subR (k : Int) (xs.length : Int) xs.length = true := subR_iff.2 ⟨by omega, by omega, by omega⟩
theorem loop_plc {α : Type} {lt : α → α → Bool} {x : α} {l : List α} {L : Nat → Int → Option Int} (hs : ∀ k (i : Nat) y, l[i]? = some y → L (k + 1) (i : Int) = bif lt y x then L k ((i + 1 : Nat) : Int) else some (i : Int)) (he : ∀ k, L (k + 1) (l.length : Int) = some (l.length : Int)) {fu : Nat} (hf : l.length < fu) :
    L fu (0 : Int) = some ((plc lt x l : Nat) : Int) := by
  have key : ∀ m i k, i + m = l.length → m < k → L k ((i : Nat) : Int) = some ((i + plc lt x (l.drop i) : Nat) : Int) := by
    intro m
    induction m with
    | zero =>
      intro i k hi hk
      obtain ⟨k, rfl⟩ : ∃ q, k = q + 1 := ⟨k - 1, by omega⟩
      obtain rfl : i = l.length := by omega
      rw [he, List.drop_length]
      rfl
    | succ m ih =>
      intro i k hi hk
      obtain ⟨k, rfl⟩ : ∃ q, k = q + 1 := ⟨k - 1, by omega⟩
      have hx := List.getElem?_eq_getElem (show i < l.length by omega)
      rw [hs k i _ hx, drop_cons hx, plc]
      cases lt l[i] x
      · rfl
      · rw [cond_true, cond_true, ih (i + 1) k (by omega) (by omega)]
        congr 2
        omega
  have := key l.length 0 fu (by omega) hf
  rwa [show ((0 : Nat) : Int) = 0 from rfl, List.drop_zero, Nat.zero_add] at this
theorem put_t {fu : Nat} {l : List (List UInt8)} {x : List UInt8} {tw : Bool} (hf : l.length < fu) (hl : l.length ≤ 2147483648) : M_spec_l3Put fu l x tw = some (bif tw then putW bLt l x else putS bLt l x) := by
  unfold M_spec_l3Put
  have h := loop_plc (lt := bLt) (x := x) (l := l) (L := M_spec_l3Put_L0 fu l x) (fun k i y hy => by
    have hi := at_lt hy
    rw [M_spec_l3Put_L0]
    simp only [lt_t hi, inR_t hi, gtD_get hy, bd_eq, Bool.or_true, Bool.true_and, ck_tt, i64B_c (show i ≤ 4294967296 by omega), succ_i]) (fun k => by rw [M_spec_l3Put_L0, lt_f]; rfl) hf
  have hp := plc_le (lt := bLt) (x := x) l
  rw [h, cl_true]
  simp only [bd_eq, subL_take, subL_drop, subR_k hp, subR_d hp, ck_tt, List.length_nil, List.length_append, List.length_take, List.length_drop, List.length_singleton, List.nil_append, Nat.zero_add, lenOK_t (show min (plc bLt x l) l.length ≤ 4294967296 by omega), lenOK_t (show min (plc bLt x l) l.length + 1 ≤ 4294967296 by omega), lenOK_t (show min (plc bLt x l) l.length + 1 + (l.length - plc bLt x l) ≤ 4294967296 by omega)]
  have hins : l.take (plc bLt x l) ++ [x] ++ l.drop (plc bLt x l) = putW bLt l x := by simp [putW, insAt]
  rw [hins]
  unfold putS
  by_cases hlt : plc bLt x l < l.length
  · have hg := List.getElem?_eq_getElem hlt
    rw [lt_t hlt, inR_t hlt, gtD_get hg, hg]
    have : (some l[plc bLt x l] == some x) = (l[plc bLt x l] == x) := rfl
    rw [this]
    cases tw <;> cases (l[plc bLt x l] == x) <;> rfl
  · have e : decide (((plc bLt x l : Nat) : Int) < (l.length : Int)) = false := decide_eq_false (by omega)
    have e2 : l[plc bLt x l]? = none := List.getElem?_eq_none (by omega)
    rw [e, e2]
    cases tw <;> rfl
theorem has_t {fu : Nat} {l : List (List UInt8)} {x : List UInt8} (hf : l.length < fu) (hl : l.length ≤ 2147483648) : M_spec_l3Has fu l x = some (l.any fun y => y == x) := by
  unfold M_spec_l3Has
  have h := loop_any (xs := l) (p := fun y => y == x) (r := true) (L := M_spec_l3Has_L0 fu l x) (fun k i y hy => by
    have hi := at_lt hy
    rw [M_spec_l3Has_L0, lt_t hi, cond_true]
    simp only [inR_t hi, gtD_get hy, ck_tt, i64B_c (show i ≤ 4294967296 by omega), succ_i]) (fun k => by rw [M_spec_l3Has_L0, lt_f]; rfl) hf
  rw [h, cl_true]
  cases l.any fun y => y == x <;> rfl
theorem any_mem {l : List (List UInt8)} {x : List UInt8} : (l.any fun y => y == x) = true ↔ x ∈ l := by simp
/-! the library's ways -/
theorem clone_t {fu : Nat} {l : List (List UInt8)} (hl : l.length ≤ 4294967296) : M_slices_Clone_string_string fu l = some l := by
  unfold M_slices_Clone_string_string
  rw [List.nil_append, ck_t (lenOK_t (by simpa using hl))]
theorem sortS_t {fu : Nat} {l : List (List UInt8)} (hl : l.length ≤ 4294967296) : M_sortS fu l = some (l.mergeSort fun x y => !(bLt y x)) := by
  unfold M_sortS
  rw [ck_t (lenOK_t hl)]
  have : (fun x y : List UInt8 => decide (x ≤ y)) = fun x y => !(bLt y x) := by
    funext x y
    exact le_bLt x y
  rw [this]
/-- the rest, with zeros behind -/
theorem sub_zeros {α : Type} {z : α} {s : List α} {w : Nat} (h : w ≤ s.length) : subL (s.take w ++ List.replicate (s.length - w) z) 0 (w : Int) = s.take w := by
  rw [subL_take, List.take_append_of_le_length (by simp; omega), List.take_take, Nat.min_self]
theorem zeros_length {α : Type} {z : α} {s : List α} {w : Nat} (h : w ≤ s.length) : (s.take w ++ List.replicate (s.length - w) z).length = s.length := by simp; omega
theorem compact1_t {fu : Nat} {s : List (List UInt8)} {i : Nat} (hl : s.length ≤ 1048576) (hi0 : 0 < i) : ∀ m j w k ys q, i + j + m = s.length → m < k → 1 ≤ j → w ≤ i + j - 1 → ys.length = s.length → ys.drop (i + j - 1) = s.drop (i + j - 1) → s[i + j - 1]? = some q → ys.take w ++ cmpA q (s.drop (i + j)) = cmpL s →
    ∃ (w' : Nat) (ys' : List (List UInt8)), M_slices_Compact_string_string_L1 fu (i : Int) (s.length - i) k (w : Int) (j : Int) ys = some ((w' : Int), ys') ∧ ys'.length = s.length ∧ w' ≤ s.length ∧ ys'.take w' = cmpL s := by
  intro m
  induction m with
  | zero =>
    intro j w k ys q hm hk hj hw hlen hdr hq hc
    obtain ⟨k, rfl⟩ : ∃ q, k = q + 1 := ⟨k - 1, by omega⟩
    refine ⟨w, ys, ?_, hlen, by omega, ?_⟩
    · rw [M_slices_Compact_string_string_L1, decide_eq_false (show ¬ (j : Int) < ((s.length - i : Nat) : Int) by omega)]
      rfl
    · rw [show i + j = s.length by omega, List.drop_length] at hc
      simpa [cmpA] using hc
  | succ m ih =>
    intro j w k ys q hm hk hj hw hlen hdr hq hc
    obtain ⟨k, rfl⟩ : ∃ q, k = q + 1 := ⟨k - 1, by omega⟩
    have hx := List.getElem?_eq_getElem (show i + j < s.length by omega)
    have hat : ∀ n, i + j - 1 ≤ n → ys[n]? = s[n]? := fun n hn => by
      have := congrArg (fun l => l[n - (i + j - 1)]?) hdr
      simp only [List.getElem?_drop] at this
      rwa [show i + j - 1 + (n - (i + j - 1)) = n by omega] at this
    have hyx : ys[i + j]? = some s[i + j] := (hat _ (by omega)).trans hx
    have hyq : ys[i + j - 1]? = some q := (hat _ (Nat.le_refl _)).trans hq
    have e1 : ((i : Int) + (j : Int)) = ((i + j : Nat) : Int) := rfl
    have e2 : ((i : Int) + ((j : Int) - 1)) = ((i + j - 1 : Nat) : Int) := by omega
    rw [M_slices_Compact_string_string_L1, decide_eq_true (show (j : Int) < ((s.length - i : Nat) : Int) by omega), cond_true, ck_t (inR_i (by omega) (by omega)), ck_t (decide_eq_true (by omega)), e1, ck_t (inR_t (by omega)), ck_t (i64B_t (by omega) (by omega)), ck_t (inR_i (by omega) (by omega)), ck_t (decide_eq_true (by omega)), e2, ck_t (inR_t (by omega)), gtD_get hyx, gtD_get hyq]
    rw [drop_cons hx, cmpA] at hc
    cases hb : (s[i + j] == q)
    · rw [Bool.not_false, cond_true, ck_t (inR_i (by omega) (by omega)), ck_t (decide_eq_true (by omega)), ck_t (inR_t (by omega)), ck_t (inR_t (by omega)), ck_t (i64B_n (by omega)), ck_t (i64B_n (by omega)), succ_i, succ_i, set_nat]
      rw [hb, cond_false] at hc
      have := ih (j + 1) (w + 1) k (ys.set w s[i + j]) s[i + j] (by omega) (by omega) (by omega) (by omega) (by rw [List.length_set]; exact hlen) ?_ ?_ ?_
      · exact this
      · rw [List.drop_set_of_lt (by omega)]
        have := congrArg (fun l => l.drop 1) hdr
        simp only [List.drop_drop] at this
        rwa [show i + (j + 1) - 1 = i + j - 1 + 1 by omega]
      · rw [show i + (j + 1) - 1 = i + j by omega]
        exact hx
      · rw [List.take_add_one, List.take_set_of_le (Nat.le_refl _), List.getElem?_set_self (by omega)]
        simpa [Nat.add_assoc] using hc
    · rw [Bool.not_true, cond_false, ck_t (i64B_n (by omega)), succ_i]
      rw [hb, cond_true] at hc
      refine ih (j + 1) w k ys s[i + j] (by omega) (by omega) (by omega) (by omega) hlen ?_ ?_ hc
      · have := congrArg (fun l => l.drop 1) hdr
        simp only [List.drop_drop] at this
        rwa [show i + (j + 1) - 1 = i + j - 1 + 1 by omega]
      · rw [show i + (j + 1) - 1 = i + j by omega]
        exact hx
theorem compact_t {fu : Nat} {s : List (List UInt8)} (hf : 1048577 ≤ fu) (hl : s.length ≤ 1048576) : M_slices_Compact_string_string fu s = some (cmpL s) := by
  unfold M_slices_Compact_string_string
  by_cases h2 : s.length < 2
  · rw [decide_eq_true (by omega), cond_true]
    match s, h2 with
    | [], _ => rfl
    | [x], _ => rfl
  · rw [decide_eq_false (by omega), cond_false]
    have key : ∀ m i k q, i + m = s.length → m < k → 0 < i → s[i - 1]? = some q → s.take i ++ cmpA q (s.drop i) = cmpL s →
        M_slices_Compact_string_string_L0 fu k (i : Int) s = some (Ex.ret (cmpL s)) ∨ (M_slices_Compact_string_string_L0 fu k (i : Int) s = some (Ex.go s) ∧ cmpL s = s) := by
      intro m
      induction m with
      | zero =>
        intro i k q hm hk hi hq hc
        obtain ⟨k, rfl⟩ : ∃ q, k = q + 1 := ⟨k - 1, by omega⟩
        obtain rfl : i = s.length := by omega
        right
        refine ⟨by rw [M_slices_Compact_string_string_L0, lt_f]; rfl, ?_⟩
        rw [List.drop_length, List.take_length] at hc
        simpa [cmpA] using hc.symm
      | succ m ih =>
        intro i k q hm hk hi hq hc
        obtain ⟨k, rfl⟩ : ∃ q, k = q + 1 := ⟨k - 1, by omega⟩
        have hlt : i < s.length := by omega
        have hx := List.getElem?_eq_getElem hlt
        have e1 : ((i : Int) - 1) = ((i - 1 : Nat) : Int) := by omega
        rw [M_slices_Compact_string_string_L0, lt_t hlt, cond_true, ck_t (inR_t hlt), ck_t (i64B_t (by omega) (by omega)), e1, ck_t (inR_t (by omega)), gtD_get hx, gtD_get hq]
        have hc' := hc
        rw [drop_cons hx, cmpA] at hc
        cases hb : (s[i] == q)
        · rw [cond_false, ck_t (i64B_n (by omega)), succ_i]
          rw [hb, cond_false] at hc
          refine ih (i + 1) k s[i] (by omega) (by omega) (by omega) (by rw [Nat.add_sub_cancel]; exact hx) ?_
          have ht : s.take (i + 1) = s.take i ++ [s[i]] := by rw [List.take_add_one, hx]; rfl
          rw [ht, List.append_assoc]
          exact hc
        · left
          rw [hb, cond_true] at hc
          obtain ⟨w', ys', h3, h4, h5, h6⟩ := compact1_t (fu := fu) hl hi (s.length - i - 1) 1 i fu s s[i] (by omega) (by omega) (Nat.le_refl _) (by omega) rfl rfl (by rw [Nat.add_sub_cancel]; exact hx) hc
          rw [cond_true, ck_t (subR_d (Nat.le_of_lt hlt)), bd_eq, Int.toNat_natCast, Int.toNat_natCast, show ((1 : Int)) = ((1 : Nat) : Int) from rfl, h3, cl_true]
          simp only [h4, subR_iff.2 ⟨show (0 : Int) ≤ (w' : Int) by omega, show (w' : Int) ≤ (s.length : Int) by omega, show (s.length : Int) ≤ (s.length : Int) from Int.le_refl _⟩, bd_eq, Int.toNat_natCast, ck_tt, beq_self_eq_true]
          have e3 : (ys'.take w' ++ List.replicate (s.length - w') ([] : List UInt8)) = (ys'.take w' ++ List.replicate (ys'.length - w') ([] : List UInt8)) := by rw [h4]
          rw [e3, ck_t (by rw [zeros_length (by omega)]; exact subR_k (by omega)), sub_zeros (by omega), h6]
    obtain ⟨x0, t, hs⟩ : ∃ x t, s = x :: t := by
      cases s with
      | nil => simp at h2
      | cons x t => exact ⟨x, t, rfl⟩
    have hk := key (s.length - 1) 1 fu x0 (by omega) (by omega) (by omega) (by rw [hs]; rfl) (by rw [hs]; rfl)
    rw [show ((1 : Int)) = ((1 : Nat) : Int) from rfl]
    rcases hk with h | ⟨h, e⟩
    · rw [h]
      rfl
    · rw [h, e]
      rfl
theorem sortedSet_t {fu : Nat} {l : List (List UInt8)} (hf : 1048577 ≤ fu) (hl : l.length ≤ 1048576) : M_impl_sortedSet fu l = some (cmpL (l.mergeSort fun x y => !(bLt y x))) := by
  unfold M_impl_sortedSet
  rw [clone_t (by omega), cl_true, sortS_t (by omega), cl_true, compact_t hf (by rw [List.length_mergeSort]; exact hl)]
  rfl
/-- the set of a list -/
def setL (l : List (List UInt8)) : List (List UInt8) := cmpL (l.mergeSort fun x y => !(bLt y x))
theorem setL_sorted (l : List (List UInt8)) : SortedS bLt (setL l) := cmpL_sorted sto_bLt (sort_sorted sto_bLt l)
theorem setL_mem {l : List (List UInt8)} {x : List UInt8} : x ∈ setL l ↔ x ∈ l := by
  unfold setL
  rw [cmpL_mem, List.mem_mergeSort]
theorem cmpL_length {l : List (List UInt8)} : (cmpL l).length ≤ l.length := by
  cases l with
  | nil => exact Nat.le_refl _
  | cons x xs =>
    have := cmpA_length (p := x) (l := xs)
    simp [cmpL]
    omega
theorem setL_length (l : List (List UInt8)) : (setL l).length ≤ l.length := by
  have := cmpL_length (l := l.mergeSort fun x y => !(bLt y x))
  rwa [List.length_mergeSort] at this
theorem common_eq (a b : List (List UInt8)) : (a.filter fun x => b.any fun y => y == x).foldl (putS bLt) [] = (setL a).filter fun x => b.any fun y => y == x := by
  obtain ⟨h1, h2⟩ := foldl_putS sto_bLt (a.filter fun x => b.any fun y => y == x) [] List.Pairwise.nil
  refine sortedS_one sto_bLt h1 ((setL_sorted a).sublist List.filter_sublist) fun x => ?_
  rw [h2, List.mem_filter, List.mem_filter, setL_mem]
  simp
end Go.Proofs.Ytofiipblinonoaa

