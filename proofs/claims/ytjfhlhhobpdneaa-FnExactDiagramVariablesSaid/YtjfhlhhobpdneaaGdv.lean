/- Plain: the variables of rules, program and reference alike. No statement of the seat is proved here. -/
import Derived.Test.YtjfhlhhobpdneaaGtf
import Derived.Test.YtjfhlhhobpdneaaGrs
namespace Go.Proofs.Ytjfhlhhobpdneaa
open Go.RowKit
set_option linter.unusedVariables false
set_option linter.unusedSimpArgs false

theorem mergeSort_eq {α : Type} {l : List α} {f g : α → α → Bool} (h : ∀ x ∈ l, ∀ y ∈ l, f x y = g x y) : l.mergeSort f = l.mergeSort g := by
  have := List.map_mergeSort (f := fun x : α => x) (r := f) (s := g) (l := l) h
  simpa using this
theorem compactT1_t {fu : Nat} {s : List TTst} {i : Nat} (hl : s.length ≤ 1048576) (hi0 : 0 < i) : ∀ m j w k ys q, i + j + m = s.length → m < k → 1 ≤ j → w ≤ i + j - 1 → ys.length = s.length → ys.drop (i + j - 1) = s.drop (i + j - 1) → s[i + j - 1]? = some q → ys.take w ++ cmpA q (s.drop (i + j)) = cmpL s →
    ∃ (w' : Nat) (ys' : List TTst), M_slices_Compact_impl_Test_impl_Test_L1 fu (i : Int) (s.length - i) k (w : Int) (j : Int) ys = some ((w' : Int), ys') ∧ ys'.length = s.length ∧ w' ≤ s.length ∧ ys'.take w' = cmpL s := by
  intro m
  induction m with
  | zero =>
    intro j w k ys q hm hk hj hw hlen hdr hq hc
    obtain ⟨k, rfl⟩ : ∃ q, k = q + 1 := ⟨k - 1, by omega⟩
    refine ⟨w, ys, ?_, hlen, by omega, ?_⟩
    · rw [M_slices_Compact_impl_Test_impl_Test_L1, decide_eq_false (show ¬ (j : Int) < ((s.length - i : Nat) : Int) by omega)]
      rfl
    · rw [show i + j = s.length by omega, List.drop_length] at hc
      simpa [cmpA] using hc
  | succ m ih =>
    intro j w k ys q hm hk hj hw hlen hdr hq hc
    obtain ⟨k, rfl⟩ : ∃ q, k = q + 1 := ⟨k - 1, by omega⟩
    have hx := List.getElem?_eq_getElem (show i + j < s.length by omega)
    have hat : ∀ n, i + j - 1 ≤ n → ys[n]? = s[n]? := fun n hn => by
      have := congrArg (fun l => l[n - (i + j - 1)]?) hdr
      simp only [List.getElem?_drop] at this
      rwa [show i + j - 1 + (n - (i + j - 1)) = n by omega] at this
    have hyx : ys[i + j]? = some s[i + j] := (hat _ (by omega)).trans hx
    have hyq : ys[i + j - 1]? = some q := (hat _ (Nat.le_refl _)).trans hq
    have e1 : ((i : Int) + (j : Int)) = ((i + j : Nat) : Int) := rfl
    have e2 : ((i : Int) + ((j : Int) - 1)) = ((i + j - 1 : Nat) : Int) := by omega
    rw [M_slices_Compact_impl_Test_impl_Test_L1, decide_eq_true (show (j : Int) < ((s.length - i : Nat) : Int) by omega), cond_true, ck_t (inR_i (by omega) (by omega)), ck_t (decide_eq_true (by omega)), e1, ck_t (inR_t (by omega)), ck_t (i64B_t (by omega) (by omega)), ck_t (inR_i (by omega) (by omega)), ck_t (decide_eq_true (by omega)), e2, ck_t (inR_t (by omega)), gtD_get hyx, gtD_get hyq]
    rw [drop_cons hx, cmpA] at hc
    cases hb : (s[i + j] == q)
    · rw [Bool.not_false, cond_true, ck_t (inR_i (by omega) (by omega)), ck_t (decide_eq_true (by omega)), ck_t (inR_t (by omega)), ck_t (inR_t (by omega)), ck_t (i64B_n (by omega)), ck_t (i64B_n (by omega)), succ_i, succ_i, set_nat]
      rw [hb, cond_false] at hc
      have := ih (j + 1) (w + 1) k (ys.set w s[i + j]) s[i + j] (by omega) (by omega) (by omega) (by omega) (by rw [List.length_set]; exact hlen) ?_ ?_ ?_
      · exact this
      · rw [List.drop_set_of_lt (by omega)]
        have := congrArg (fun l => l.drop 1) hdr
        simp only [List.drop_drop] at this
        rwa [show i + (j + 1) - 1 = i + j - 1 + 1 by omega]
      · rw [show i + (j + 1) - 1 = i + j by omega]
        exact hx
      · rw [List.take_add_one, List.take_set_of_le (Nat.le_refl _), List.getElem?_set_self (by omega)]
        simpa [Nat.add_assoc] using hc
    · rw [Bool.not_true, cond_false, ck_t (i64B_n (by omega)), succ_i]
      rw [hb, cond_true] at hc
      refine ih (j + 1) w k ys s[i + j] (by omega) (by omega) (by omega) (by omega) hlen ?_ ?_ hc
      · have := congrArg (fun l => l.drop 1) hdr
        simp only [List.drop_drop] at this
        rwa [show i + (j + 1) - 1 = i + j - 1 + 1 by omega]
      · rw [show i + (j + 1) - 1 = i + j by omega]
        exact hx
theorem compactT_t {fu : Nat} {s : List TTst} (hf : 1048577 ≤ fu) (hl : s.length ≤ 1048576) : M_slices_Compact_impl_Test_impl_Test fu s = some (cmpL s) := by
  unfold M_slices_Compact_impl_Test_impl_Test
  by_cases h2 : s.length < 2
  · rw [decide_eq_true (by omega), cond_true]
    match s, h2 with
    | [], _ => rfl
    | [x], _ => rfl
  · rw [decide_eq_false (by omega), cond_false]
    have key : ∀ m i k q, i + m = s.length → m < k → 0 < i → s[i - 1]? = some q → s.take i ++ cmpA q (s.drop i) = cmpL s →
        M_slices_Compact_impl_Test_impl_Test_L0 fu k (i : Int) s = some (Ex.ret (cmpL s)) ∨ (M_slices_Compact_impl_Test_impl_Test_L0 fu k (i : Int) s = some (Ex.go s) ∧ cmpL s = s) := by
      intro m
      induction m with
      | zero =>
        intro i k q hm hk hi hq hc
        obtain ⟨k, rfl⟩ : ∃ q, k = q + 1 := ⟨k - 1, by omega⟩
        obtain rfl : i = s.length := by omega
        right
        refine ⟨by rw [M_slices_Compact_impl_Test_impl_Test_L0, lt_f]; rfl, ?_⟩
        rw [List.drop_length, List.take_length] at hc
        simpa [cmpA] using hc.symm
      | succ m ih =>
        intro i k q hm hk hi hq hc
        obtain ⟨k, rfl⟩ : ∃ q, k = q + 1 := ⟨k - 1, by omega⟩
        have hlt : i < s.length := by omega
        have hx := List.getElem?_eq_getElem hlt
        have e1 : ((i : Int) - 1) = ((i - 1 : Nat) : Int) := by omega
        rw [M_slices_Compact_impl_Test_impl_Test_L0, lt_t hlt, cond_true, ck_t (inR_t hlt), ck_t (i64B_t (by omega) (by omega)), e1, ck_t (inR_t (by omega)), gtD_get hx, gtD_get hq]
        have hc' := hc
        rw [drop_cons hx, cmpA] at hc
        cases hb : (s[i] == q)
        · rw [cond_false, ck_t (i64B_n (by omega)), succ_i]
          rw [hb, cond_false] at hc
          refine ih (i + 1) k s[i] (by omega) (by omega) (by omega) (by rw [Nat.add_sub_cancel]; exact hx) ?_
          have ht : s.take (i + 1) = s.take i ++ [s[i]] := by rw [List.take_add_one, hx]; rfl
          rw [ht, List.append_assoc]
          exact hc
        · left
          rw [hb, cond_true] at hc
          obtain ⟨w', ys', h3, h4, h5, h6⟩ := compactT1_t (fu := fu) hl hi (s.length - i - 1) 1 i fu s s[i] (by omega) (by omega) (Nat.le_refl _) (by omega) rfl rfl (by rw [Nat.add_sub_cancel]; exact hx) hc
          rw [cond_true, ck_t (subR_d (Nat.le_of_lt hlt)), bd_eq, Int.toNat_natCast, Int.toNat_natCast, show ((1 : Int)) = ((1 : Nat) : Int) from rfl, h3, cl_true]
          simp only [h4, subR_iff.2 ⟨show (0 : Int) ≤ (w' : Int) by omega, show (w' : Int) ≤ (s.length : Int) by omega, show (s.length : Int) ≤ (s.length : Int) from Int.le_refl _⟩, bd_eq, Int.toNat_natCast, ck_tt, beq_self_eq_true]
          have e3 : (ys'.take w' ++ List.replicate (s.length - w') ((0 : Int), ((0 : Int), false))) = (ys'.take w' ++ List.replicate (ys'.length - w') ((0 : Int), ((0 : Int), false))) := by rw [h4]
          rw [e3, ck_t (by rw [zeros_length (by omega)]; exact subR_k (by omega)), sub_zeros (by omega), h6]
    obtain ⟨x0, t, hs⟩ : ∃ x t, s = x :: t := by
      cases s with
      | nil => simp at h2
      | cons x t => exact ⟨x, t, rfl⟩
    have hk := key (s.length - 1) 1 fu x0 (by omega) (by omega) (by omega) (by rw [hs]; rfl) (by rw [hs]; rfl)
    rw [show ((1 : Int)) = ((1 : Nat) : Int) from rfl]
    rcases hk with h | ⟨h, e⟩
    · rw [h]
      rfl
    · rw [h, e]
      rfl
/-- the order of tests -/
def tT (a b : TTst) : Bool := decide (a.1 < b.1) || (a.1 == b.1 && (decide (a.2.1 < b.2.1) || (a.2.1 == b.2.1 && (!a.2.2 && b.2.2))))
theorem tT_iff {a b : TTst} : tT a b = true ↔ a.1 < b.1 ∨ (a.1 = b.1 ∧ (a.2.1 < b.2.1 ∨ (a.2.1 = b.2.1 ∧ a.2.2 = false ∧ b.2.2 = true))) := by simp [tT]
theorem sto_tT : Sto tT := by
  refine ⟨fun a => ?_, fun a b c h k => ?_, fun a b h k => ?_⟩
  · cases h : tT a a
    · rfl
    · rw [tT_iff] at h
      rcases h with h | ⟨_, h | ⟨_, h1, h2⟩⟩
      · omega
      · omega
      · rw [h1] at h2
        cases h2
  · rw [tT_iff] at *
    rcases h with h | ⟨h0, h | ⟨h, h1, h2⟩⟩ <;> rcases k with k | ⟨k0, k | ⟨k, k1, k2⟩⟩
    · exact .inl (by omega)
    · exact .inl (by omega)
    · exact .inl (by omega)
    · exact .inl (by omega)
    · exact .inr ⟨by omega, .inl (by omega)⟩
    · exact .inr ⟨by omega, .inl (by omega)⟩
    · exact .inl (by omega)
    · exact .inr ⟨by omega, .inl (by omega)⟩
    · rw [h2] at k1
      cases k1
  · have h' : ¬ tT a b = true := by rw [h]; exact Bool.false_ne_true
    have k' : ¬ tT b a = true := by rw [k]; exact Bool.false_ne_true
    rw [tT_iff] at h' k'
    obtain ⟨a1, a2, a3⟩ := a
    obtain ⟨b1, b2, b3⟩ := b
    dsimp only at *
    have e1 : a1 = b1 := by omega
    have e2 : a2 = b2 := by omega
    subst e1 e2
    cases a3 <;> cases b3
    · rfl
    · exact absurd (.inr ⟨rfl, .inr ⟨rfl, rfl, rfl⟩⟩) h'
    · exact absurd (.inr ⟨rfl, .inr ⟨rfl, rfl, rfl⟩⟩) k'
    · rfl
def vcmp (a b : TTst) : Int := if a.1 < b.1 then -1 else if b.1 < a.1 then 1 else if a.2.1 < b.2.1 then -1 else if b.2.1 < a.2.1 then 1 else 0
theorem vcmp_lt {a b : TTst} (ha : a.2.2 = false) (hb : b.2.2 = false) : decide (vcmp a b < 0) = tT a b := by
  unfold vcmp tT
  rw [ha, hb]
  by_cases h1 : a.1 < b.1
  · simp [h1]
  · by_cases h2 : b.1 < a.1
    · have : (a.1 == b.1) = false := by simp; omega
      simp [h1, h2, this]
    · have : (a.1 == b.1) = true := by simp; omega
      rw [if_neg h1, if_neg h2, this, decide_eq_false h1]
      by_cases h3 : a.2.1 < b.2.1
      · simp [h3]
      · by_cases h4 : b.2.1 < a.2.1
        · simp [h3, h4]
        · simp [h3, h4]
theorem vcmp_t {fu : Nat} {a b : TTst} (hf : 1048577 ≤ fu) : M_impl_DiagramVariables_1 fu a b = some (vcmp a b) := by
  unfold M_impl_DiagramVariables_1
  rw [cmpI_t, cl_true, cmpI_t, cl_true, or_t hf, cl_true]
  unfold vcmp
  by_cases h1 : a.1 < b.1
  · simp [h1]
  · by_cases h2 : b.1 < a.1
    · simp [h1, h2]
    · simp [h1, h2]
theorem sortT_t {fu : Nat} {l : List TTst} (hf : 1048577 ≤ fu) (hl : l.length ≤ 1048576) (hb : ∀ t ∈ l, t.2.2 = false) : M_sortF fu l (fun x y => M_impl_DiagramVariables_1 fu x y) = some (l.mergeSort fun x y => !(tT y x)) := by
  have hF : (fun x y => M_impl_DiagramVariables_1 fu x y) = fun x y => some (vcmp x y) := by
    funext x y
    exact vcmp_t hf
  have S := sto_tT
  rw [hF]
  unfold M_sortF
  rw [ck_t (lenOK_t (by omega)), ck_t]
  · congr 1
    exact mergeSort_eq fun x hx y hy => by
      show (!(decide (vcmp y x < 0))) = _
      rw [vcmp_lt (hb y hy) (hb x hx)]
  · unfold sortOK
    simp only [List.all_eq_true, Bool.and_eq_true]
    intro x hx y hy
    have g : ∀ x ∈ l, ∀ y ∈ l, decide (gv (some (vcmp x y)) < 0) = tT x y := fun x hx y hy => vcmp_lt (hb x hx) (hb y hy)
    rw [g x hx x hx, g x hx y hy, g y hy x hx]
    simp only [S.irr, Option.isSome_some, Bool.not_false]
    refine ⟨⟨⟨trivial, trivial⟩, ?_⟩, fun z hz => ?_⟩
    · cases h1 : tT x y
      · cases h2 : tT y x
        · have := S.tri x y h1 h2
          simp [this]
        · rfl
      · rfl
    · rw [g y hy z hz, g x hx z hz]
      refine ⟨?_, ?_⟩
      · cases h1 : tT x y
        · rfl
        · cases h2 : tT y z
          · rfl
          · rw [S.tr _ _ _ h1 h2]
            rfl
      · cases h1 : tT x y
        · cases h2 : tT y z
          · rw [S.le_tr h2 h1]
            rfl
          · rfl
        · rfl
/-! the program -/
def nob (t : TTst) : TTst := (t.1, t.2.1, false)
def varL (r : List (List TTst)) : List TTst := bif rsB r then cmpL ((r.flatten.map nob).mergeSort fun x y => !(tT y x)) else []
theorem foldl_flat {α : Type} : ∀ (r : List (List α)) (a : List α), r.foldl (fun acc l => acc ++ l) a = a ++ r.flatten
  | [], a => by simp
  | l :: r, a => by rw [List.foldl_cons, foldl_flat r, List.flatten_cons, List.append_assoc]
theorem flat_len {α : Type} {n : Nat} : ∀ {r : List (List α)}, (∀ l ∈ r, l.length ≤ n) → r.flatten.length ≤ n * r.length
  | [], _ => by simp
  | l :: r, h => by
    have h1 := h l (List.mem_cons_self ..)
    have h2 := flat_len (r := r) fun l hl => h l (List.mem_cons_of_mem _ hl)
    rw [List.flatten_cons, List.length_append, List.length_cons, Nat.mul_add]
    omega
theorem all_t {fu : Nat} {r : List (List TTst)} (hf : 1048577 ≤ fu) (hn : r.length ≤ 3) (hl : ∀ l ∈ r, l.length ≤ 3) : M_impl_allTests fu r = some r.flatten := by
  unfold M_impl_allTests
  have h := loop_fold (xs := r) (g := fun (acc : List TTst) l => acc ++ l) (Inv := fun i acc => acc.length ≤ 3 * i) (L := M_impl_allTests_L0 fu r) (fun k i acc l hl' hacc => by
    have hi := at_lt hl'
    have := hl l (at_mem hl')
    rw [M_impl_allTests_L0, lt_t hi, cond_true]
    simp only [inR_t hi, gtD_get hl', ck_tt, lenOK_t (show acc.length + l.length ≤ 4294967296 by omega), i64B_c (show i ≤ 4294967296 by omega), succ_i]) (fun i acc l hl' hacc => by
    have := hl l (at_mem hl')
    rw [List.length_append]
    omega) (fun k acc hacc => by rw [M_impl_allTests_L0, lt_f]; rfl) (a := []) (Nat.zero_le _) (show r.length < fu by omega)
  rw [h.1, cl_true, foldl_flat, List.nil_append]
theorem loop_st {σ : Type} {st : Nat → σ} {n : Nat} {L : Nat → Int → σ → Option σ} (hs : ∀ k i, i < n → L (k + 1) (i : Int) (st i) = L k ((i + 1 : Nat) : Int) (st (i + 1))) (he : ∀ k, L (k + 1) (n : Int) (st n) = some (st n)) {fu : Nat} (hf : n < fu) :
    L fu (0 : Int) (st 0) = some (st n) := by
  have key : ∀ m i k, i + m = n → m < k → L k ((i : Nat) : Int) (st i) = some (st n) := by
    intro m
    induction m with
    | zero =>
      intro i k hi hk
      obtain ⟨k, rfl⟩ : ∃ q, k = q + 1 := ⟨k - 1, by omega⟩
      obtain rfl : i = n := by omega
      exact he k
    | succ m ih =>
      intro i k hi hk
      obtain ⟨k, rfl⟩ : ∃ q, k = q + 1 := ⟨k - 1, by omega⟩
      rw [hs k i (by omega)]
      exact ih (i + 1) k (by omega) (by omega)
  exact key n 0 fu (by omega) hf
theorem nob_t {fu : Nat} {l : List TTst} (hf : l.length < fu) (hl : l.length ≤ 1048576) : M_impl_DiagramVariables_L0 fu l fu (0 : Int) l = some (l.map nob) := by
  have h := loop_st (st := fun i => (l.take i).map nob ++ l.drop i) (n := l.length) (L := M_impl_DiagramVariables_L0 fu l) (fun k i hi => by
    have hx := List.getElem?_eq_getElem hi
    have hlen : ((l.take i).map nob).length = i := by rw [List.length_map, List.length_take]; omega
    have hg : ((l.take i).map nob ++ l.drop i)[i]? = some l[i] := by
      rw [List.getElem?_append_right (by omega), hlen, Nat.sub_self, List.getElem?_drop, Nat.add_zero]
      exact hx
    rw [M_impl_DiagramVariables_L0, lt_t hi, cond_true, ck_t (inR_t (by rw [List.length_append, hlen, List.length_drop]; omega)), ck_t (i64B_n (by omega)), succ_i, set_nat, gtD_get hg]
    congr 1
    rw [List.set_append_right _ _ (by omega), hlen, Nat.sub_self, drop_cons hx, List.set_cons_zero, List.take_add_one, hx, Option.toList_some, List.map_append, List.map_singleton, List.append_assoc]
    rfl) (fun k => by rw [M_impl_DiagramVariables_L0, lt_f]; rfl) hf
  rw [List.take_zero, List.map_nil, List.nil_append, List.drop_zero, List.take_length, List.drop_length, List.append_nil] at h
  exact h
theorem implVar_t {fu : Nat} {r : List (List TTst)} (hf : 1048577 ≤ fu) (hr : RsOK r) : M_impl_DiagramVariables fu r = some (varL r) := by
  unfold M_impl_DiagramVariables varL
  rw [implRs_t hf hr, cl_true]
  cases hv : rsB r
  · rfl
  · obtain ⟨h1, h2⟩ := rsB_len hv
    have hfl := flat_len (n := 3) fun l hl => (h2 l hl).1
    have hl9 : r.flatten.length ≤ 9 := by omega
    rw [Bool.not_true, cond_false, all_t hf h1 fun l hl => (h2 l hl).1, cl_true, nob_t (by omega) (by omega), cl_true, sortT_t hf (by rw [List.length_map]; omega), cl_true, compactT_t hf (by rw [List.length_mergeSort, List.length_map]; omega), cl_true]
    · rfl
    · intro t ht
      obtain ⟨s, _, rfl⟩ := List.mem_map.1 ht
      rfl
end Go.Proofs.Ytjfhlhhobpdneaa

