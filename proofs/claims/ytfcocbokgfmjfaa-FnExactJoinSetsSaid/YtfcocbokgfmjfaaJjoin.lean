/- Plain: what the law JoinSets asks. No statement of the seat is proved here. -/
import Derived.Test.YtfcocbokgfmjfaaJsic
namespace Go.Proofs.Ytfcocbokgfmjfaa
open Go.RowKit
set_option linter.unusedVariables false
set_option linter.unusedSimpArgs false

/-! ### pairs -/
def joinR (t : Int) : List (Int × List (List UInt8)) → List (Int × Int)
  | [] => []
  | s :: r => ((r.filter fun z => meetB s.2 z.2 t).map fun z => (s.1, z.1)) ++ joinR t r
def joinL (x : TIdx) : List (Int × Int) := bif idxB x then joinR x.1 x.2.2 else []
theorem joinR_length (t : Int) : ∀ l, (joinR t l).length ≤ l.length * l.length
  | [] => Nat.le_refl _
  | s :: r => by
    have h1 := joinR_length t r
    have h2 := List.length_filter_le (fun z => meetB s.2 z.2 t) r
    simp only [joinR, List.length_append, List.length_map, List.length_cons]
    rw [Nat.add_mul, Nat.mul_add]
    omega
theorem idx_12 {x : TIdx} (h : idxB x = true) : x.2.2.length ≤ 12 := by
  unfold idxB at h
  simp only [Bool.and_eq_true, decide_eq_true_eq] at h
  exact h.2.1
theorem app_length {α β : Type} {p : α → Bool} {f : α → β} (xs : List α) (a : List β) : (xs.foldl (fun acc s => bif p s then acc ++ [f s] else acc) a).length ≤ a.length + xs.length := by
  rw [foldl_app, List.length_append, List.length_map]
  have := List.length_filter_le p xs
  omega
theorem implJoin_t {fu : Nat} {x : TIdx} (hf : 1048577 ≤ fu) (hx : IdxOK x) : M_impl_JoinSets fu x = some (joinL x) := by
  unfold M_impl_JoinSets joinL
  rw [implIdx_t hf hx, cl_true]
  cases hv : idxB x
  · rfl
  · have h12 := idx_12 hv
    obtain ⟨hx1, hx2, hx3⟩ := hx
    have key : ∀ m i k acc, i + m = x.2.2.length → m < k → acc.length ≤ 12 * i → M_impl_JoinSets_L0 fu x k (i : Int) acc = some (acc ++ joinR x.1 (x.2.2.drop i)) := by
      intro m
      induction m with
      | zero =>
        intro i k acc hm hk hacc
        obtain ⟨k, rfl⟩ : ∃ q, k = q + 1 := ⟨k - 1, by omega⟩
        obtain rfl : i = x.2.2.length := by omega
        rw [M_impl_JoinSets_L0, lt_f, List.drop_length]
        simp [joinR]
      | succ m ih =>
        intro i k acc hm hk hacc
        obtain ⟨k, rfl⟩ : ∃ q, k = q + 1 := ⟨k - 1, by omega⟩
        have hlt : i < x.2.2.length := by omega
        have hs := List.getElem?_eq_getElem hlt
        have hsm := hx3 _ (at_mem hs)
        have hd : subL x.2.2 ((i : Int) + 1) (x.2.2.length : Int) = x.2.2.drop (i + 1) := by rw [succ_i, subL_drop]
        have h := loop_fold (xs := x.2.2.drop (i + 1)) (g := fun (acc : List (Int × Int)) z => bif meetB x.2.2[i].2 z.2 x.1 then acc ++ [(x.2.2[i].1, z.1)] else acc) (Inv := fun j a => a.length ≤ acc.length + j) (L := M_impl_JoinSets_L1 fu x (i : Int)) (fun k j a z hz ha => by
          have hj := at_lt hz
          have hz' : z ∈ x.2.2 := List.mem_of_mem_drop (at_mem hz)
          have hm := implMeet_t (fu := fu) (t := x.1) hf hsm.1 hsm.2 (hx3 z hz').1 (hx3 z hz').2
          have hj2 : j < 12 := by simp at hj; omega
          rw [M_impl_JoinSets_L1, hd, lt_t hj, cond_true]
          simp only [inR_t hj, gtD_get hz, gtD_get hs, ck_tt, hm, cl_true, List.length_singleton, lenOK_t (show a.length + 1 ≤ 4294967296 by omega), i64B_c (show j ≤ 4294967296 by omega), succ_i]
          cases meetB x.2.2[i].2 z.2 x.1 <;> rfl) (fun j a z hz ha => by
          show (bif meetB x.2.2[i].2 z.2 x.1 then a ++ [(x.2.2[i].1, z.1)] else a).length ≤ acc.length + (j + 1)
          cases meetB x.2.2[i].2 z.2 x.1
          · rw [cond_false]; omega
          · rw [cond_true, List.length_append, List.length_singleton]; omega) (fun k a ha => by rw [M_impl_JoinSets_L1, hd, lt_f]; rfl) (a := acc) (Nat.le_refl _) (show (x.2.2.drop (i + 1)).length < fu by simp; omega)
        have hlen := h.2
        rw [M_impl_JoinSets_L0, lt_t hlt, cond_true, ck_t (inR_t hlt), ck_t (i64B_n (by omega)), ck_t (by rw [succ_i]; exact subR_d (by omega)), h.1, cl_true, succ_i, ck_t (i64B_c (by omega)), ih (i + 1) k _ (by omega) (by omega) (by
          refine Nat.le_trans hlen ?_
          simp
          omega), foldl_app, drop_cons hs, joinR, List.append_assoc]
    have := key x.2.2.length 0 fu [] (by omega) (by omega) (Nat.zero_le _)
    rw [show ((0 : Nat) : Int) = 0 from rfl, List.nil_append, List.drop_zero] at this
    rw [Bool.not_true, cond_false, this, cl_true]
    rfl
theorem specJoin0_t {fu : Nat} {x : TIdx} (hf : 1 ≤ fu) (hv' : M_spec_IsValidSetIndex fu x = some false) : M_spec_JoinSets_L0 fu x fu (0 : Int) [] = some [] := by
  obtain ⟨k, hk⟩ : ∃ k, fu = k + 1 := ⟨fu - 1, by omega⟩
  have e : ∀ n, n = k + 1 → M_spec_JoinSets_L0 fu x n (0 : Int) [] = some [] := by
    intro n hn
    subst hn
    rw [M_spec_JoinSets_L0, hv']
    simp only [cl_if, bd_eq]
    cases decide ((0 : Int) < (x.2.2.length : Int)) <;> rfl
  exact e fu hk
theorem specJoin1_t {fu : Nat} {x : TIdx} (hf : 1048577 ≤ fu) (h12 : x.2.2.length ≤ 12) (hx3 : ∀ s ∈ x.2.2, s.2.length ≤ 1048576 ∧ ∀ t ∈ s.2, t.length ≤ 1048576) {i : Nat} {s : Int × List (List UInt8)} (hs : x.2.2[i]? = some s) (acc : List (Int × Int)) (ha : acc.length ≤ 1000) :
    M_spec_JoinSets_L1 fu x (i : Int) fu ((i + 1 : Nat) : Int) acc = some (acc ++ ((x.2.2.drop (i + 1)).filter fun z => meetB s.2 z.2 x.1).map fun z => (s.1, z.1)) := by
  have hlt := at_lt hs
  have hsm := hx3 _ (at_mem hs)
  have h := loop_fold (xs := x.2.2.drop (i + 1)) (g := fun (acc : List (Int × Int)) z => bif meetB s.2 z.2 x.1 then acc ++ [(s.1, z.1)] else acc) (Inv := fun j a => a.length ≤ acc.length + j) (L := fun k j a => M_spec_JoinSets_L1 fu x (i : Int) k (((i + 1 : Nat) : Int) + j) a) (fun k j a z hz ha => by
    have hj := at_lt hz
    have hz' : z ∈ x.2.2 := List.mem_of_mem_drop (at_mem hz)
    have hza : x.2.2[i + 1 + j]? = some z := by rwa [List.getElem?_drop] at hz
    have hq := at_lt hza
    have hm := specMeet_t (fu := fu) (t := x.1) hf hsm.1 hsm.2 (hx3 z hz').1 (hx3 z hz').2
    show M_spec_JoinSets_L1 fu x (i : Int) (k + 1) (((i + 1 : Nat) : Int) + (j : Int)) a = _
    have e1 : (((i + 1 : Nat) : Int) + (j : Int)) = ((i + 1 + j : Nat) : Int) := by omega
    have e2 : (((i + 1 + j : Nat) : Int) + 1) = ((i + 1 : Nat) : Int) + ((j + 1 : Nat) : Int) := by omega
    have hb : i64B (((i + 1 : Nat) : Int) + ((j + 1 : Nat) : Int)) = true := i64B_t (by omega) (by omega)
    have hl : lenOK (a.length + 1) = true := lenOK_t (by omega)
    rw [M_spec_JoinSets_L1, e1, lt_t hq, cond_true, ck_t (inR_t hlt), ck_t (inR_t hq), gtD_get hza, gtD_get hs, hm, cl_true, ck_t (inR_t hlt), ck_t (inR_t hq), e2]
    cases meetB s.2 z.2 x.1
    · rw [cond_false, cond_false, ck_t hb]
    · rw [cond_true, cond_true, List.length_singleton, ck_t hl, ck_t hb]) (fun j a z hz ha => by
    show (bif meetB s.2 z.2 x.1 then a ++ [(s.1, z.1)] else a).length ≤ acc.length + (j + 1)
    cases meetB s.2 z.2 x.1
    · rw [cond_false]; omega
    · rw [cond_true, List.length_append, List.length_singleton]; omega) (fun k a ha => by
    show M_spec_JoinSets_L1 fu x (i : Int) (k + 1) (((i + 1 : Nat) : Int) + ((x.2.2.drop (i + 1)).length : Int)) a = _
    have e : (((i + 1 : Nat) : Int) + ((x.2.2.drop (i + 1)).length : Int)) = (x.2.2.length : Int) := by
      rw [List.length_drop]
      omega
    rw [M_spec_JoinSets_L1, e, lt_f]; rfl) (a := acc) (Nat.le_refl _) (show (x.2.2.drop (i + 1)).length < fu by rw [List.length_drop]; omega)
  have h1 := h.1
  rw [foldl_app] at h1
  have e0 : ((i + 1 : Nat) : Int) + 0 = ((i + 1 : Nat) : Int) := Int.add_zero _
  rw [← e0]
  exact h1
theorem specJoin_t {fu : Nat} {x : TIdx} (hf : 1048577 ≤ fu) (hx : IdxOK x) : M_spec_JoinSets fu x = some (joinL x) := by
  unfold M_spec_JoinSets joinL
  have hv' := specIdx_t (fu := fu) hf hx
  cases hv : idxB x
  · rw [specJoin0_t (by omega) (hv ▸ hv'), cl_true]
    rfl
  · have h12 := idx_12 hv
    obtain ⟨hx1, hx2, hx3⟩ := hx
    rw [hv] at hv'
    have key : ∀ m i k acc, i + m = x.2.2.length → m < k → acc.length ≤ 12 * i → M_spec_JoinSets_L0 fu x k (i : Int) acc = some (acc ++ joinR x.1 (x.2.2.drop i)) := by
      intro m
      induction m with
      | zero =>
        intro i k acc hm hk hacc
        obtain ⟨k, rfl⟩ : ∃ q, k = q + 1 := ⟨k - 1, by omega⟩
        obtain rfl : i = x.2.2.length := by omega
        rw [M_spec_JoinSets_L0, lt_f, List.drop_length, hv', joinR, List.append_nil]
        rfl
      | succ m ih =>
        intro i k acc hm hk hacc
        obtain ⟨k, rfl⟩ : ∃ q, k = q + 1 := ⟨k - 1, by omega⟩
        have hlt : i < x.2.2.length := by omega
        have hs := List.getElem?_eq_getElem hlt
        have hin := specJoin1_t hf h12 hx3 hs acc (by omega)
        have hfl := List.length_filter_le (fun z => meetB x.2.2[i].2 z.2 x.1) (x.2.2.drop (i + 1))
        rw [List.length_drop] at hfl
        have hgo : M_spec_JoinSets_L0 fu x (k + 1) (i : Int) acc = M_spec_JoinSets_L0 fu x k ((i + 1 : Nat) : Int) (acc ++ ((x.2.2.drop (i + 1)).filter fun z => meetB x.2.2[i].2 z.2 x.1).map fun z => (x.2.2[i].1, z.1)) := by
          rw [M_spec_JoinSets_L0, lt_t hlt, hv']
          rw [show (true && (true == true)) = true from rfl, cl_true, bd_eq, Bool.and_self, cond_true, succ_i, ck_t (i64B_c (by omega)), hin, cl_true, ck_t (i64B_c (by omega))]
        rw [hgo, ih (i + 1) k _ (by omega) (by omega) (by rw [List.length_append, List.length_map]; omega), drop_cons hs, joinR, List.append_assoc]
    have := key x.2.2.length 0 fu [] (by omega) (by omega) (Nat.zero_le _)
    rw [show ((0 : Nat) : Int) = 0 from rfl, List.nil_append, List.drop_zero] at this
    rw [this, cl_true]
    rfl
theorem hs_JoinSets {a0 : TIdx} (h0 : (qP qI (qP (qS (qP qB qI)) (qS (qP qI (qS qB))))) a0) (hw : w_SetIndex a0 ≤ 1048576) : ∃ r : List (Int × Int), M_spec_JoinSets 1048577 a0 = some r ∧ M_impl_JoinSets 1048577 a0 = some r ∧ w_IDPairS r ≤ 1048576 := by
  have hx := idx_ok (x := a0) (by omega)
  refine ⟨_, specJoin_t (Nat.le_refl _) hx, implJoin_t (Nat.le_refl _) hx, ?_⟩
  unfold w_IDPairS
  rw [wL_zero (f := w_IDPair) fun _ => rfl]
  unfold joinL
  cases hv : idxB a0
  · exact Nat.zero_le _
  · have h12 := idx_12 hv
    have := joinR_length a0.1 a0.2.2
    have h2 := Nat.mul_le_mul h12 h12
    rw [cond_true]
    omega
end Go.Proofs.Ytfcocbokgfmjfaa

