/- Plain: what the law ParseFeatures asks. No statement of the seat is proved here. -/
import Derived.Test.YtcodfkieaoomnaaDoorIff
import Derived.Test.YtcodfkieaoomnaaDoorIpin
namespace Go.Proofs.YtcodfkieaoomnaaDoor
open Go.RowKit
set_option linter.unusedVariables false
set_option linter.unusedSimpArgs false

/-- the text of a vector -/
def fmt (xs : List Int) : List UInt8 := bif fvB xs then jn [32] (featsT xs) else []
theorem name_no : ∀ i : Nat, (32 : UInt8) ∉ gtD featL (i : Int) ∧ (61 : UInt8) ∉ gtD featL (i : Int) := by
  intro i
  have key : ∀ k : Nat, (32 : UInt8) ∉ featL.getD k default ∧ (61 : UInt8) ∉ featL.getD k default := fun k => by
    match k with
    | 0 => decide
    | 1 => decide
    | 2 => decide
    | 3 => decide
    | 4 => decide
    | 5 => decide
    | k + 6 => rw [List.getD_eq_getElem?_getD, List.getElem?_eq_none (by show 6 ≤ k + 6; omega)]; decide
  exact key _
theorem itoa_no {n : Int} (h : 0 ≤ n) : (32 : UInt8) ∉ Lib.itoa n ∧ (61 : UInt8) ∉ Lib.itoa n := by
  rw [itoa_pos h]
  exact ⟨fun hc => absurd (dec_dig _ _ hc).1 (by decide), fun hc => absurd (dec_dig _ _ hc).2 (by decide)⟩
theorem featsT_len (xs : List Int) : (featsT xs).length = xs.length := by simp [featsT]
/-- the parts of a vector's text -/
theorem fmt_parts {xs : List Int} (hv : fvB xs = true) : fmt xs ≠ [] ∧ spC 32 (fmt xs) = featsT xs ∧ xs.length = 6 ∧ ∀ i, i < xs.length → Lib.cut (featT xs i) [61] = (gtD featL (i : Int), Lib.itoa (gtD xs (i : Int)), true) ∧ spC 61 (featT xs i) = [gtD featL (i : Int), Lib.itoa (gtD xs (i : Int))] ∧ IsI (Lib.itoa (gtD xs (i : Int))) (gtD xs (i : Int)) ∧ (featT xs i).length ≤ 30 := by
  obtain ⟨hl, hb⟩ := fv_nums hv
  have hx : ∀ i, i < xs.length → 0 ≤ gtD xs (i : Int) ∧ gtD xs (i : Int) ≤ 1000 := fun i hi => by
    rw [gtD_get (List.getElem?_eq_getElem hi)]
    exact hb i _ (List.getElem?_eq_getElem hi)
  have hno : ∀ y ∈ featsT xs, (32 : UInt8) ∉ y := fun y hy => by
    obtain ⟨i, hi, rfl⟩ := List.mem_map.1 hy
    have h1 := name_no i
    have h2 := itoa_no (hx i (List.mem_range.1 hi)).1
    unfold featT
    intro h
    rcases List.mem_append.1 h with h | h
    · rcases List.mem_append.1 h with h | h
      · exact h1.1 h
      · exact absurd (List.mem_singleton.1 h) (by decide)
    · exact h2.1 h
  have he : fmt xs = jn [32] (featsT xs) := by unfold fmt; rw [hv, cond_true]
  refine ⟨?_, ?_, hl, fun i hi => ?_⟩
  · intro h0
    have hlen := featsT_len xs
    rw [he] at h0
    cases hf : featsT xs with
    | nil => rw [hf, hl] at hlen; cases hlen
    | cons x ys =>
      rw [hf] at h0
      have hx0 : x = featT xs 0 := by
        have := featsT_at (xs := xs) (i := 0) (by omega)
        rw [hf] at this
        simpa using this
      have : x = [] := by
        unfold jn at h0
        exact (List.append_eq_nil_iff.1 h0).1
      rw [hx0] at this
      unfold featT at this
      have := (List.append_eq_nil_iff.1 this).1
      have := (List.append_eq_nil_iff.1 this).2
      cases this
  · rw [he]
    have hlen := featsT_len xs
    cases hf : featsT xs with
    | nil => rw [hf, hl] at hlen; cases hlen
    | cons x ys =>
      rw [hf] at hno
      exact spC_jn hno
  · have h1 := name_no i
    have hxi := hx i hi
    have h2 := itoa_no hxi.1
    have e : featT xs i = gtD featL (i : Int) ++ 61 :: Lib.itoa (gtD xs (i : Int)) := by unfold featT; simp
    have l1 := feat_len (i : Int)
    have l2 := itoa_le (n := gtD xs (i : Int)) (by omega) (by omega)
    refine ⟨by rw [e]; exact cut_app h1.2, by rw [e, spC_app h1.2, spC_none h2.2], ⟨rfl, by omega, by omega⟩, by rw [e]; simp; omega⟩
/-- a part as the program reads it -/
def rdP (p : List UInt8) (r : Int × Bool) : Prop := RdI (Lib.cut p [61]).2.1 r
theorem cut_le (s sep : List UInt8) : (Lib.cut s sep).2.1.length ≤ s.length := by
  unfold Lib.cut
  split
  · simp only [List.length_drop]; omega
  · simp
/-- the program's loop: a part that is no number ends it, or all numbers are taken -/
theorem implLoop {fu : Nat} {ps : List (List UInt8)} (hn : ps.length ≤ 1048577) (hp : ∀ p ∈ ps, p.length ≤ 1048576) : ∀ m i k acc, i + m = ps.length → (m < k ∨ (m ≤ k ∧ ∃ p ∈ ps.drop i, rdP p (0, false))) → acc.length = i →
    (M_impl_ParseFeatures_L0 fu ps k (i : Int) acc = some (.ret ([], false)) ∧ ∃ p ∈ ps.drop i, rdP p (0, false)) ∨ ∃ ns : List Int, M_impl_ParseFeatures_L0 fu ps k (i : Int) acc = some (.go (acc ++ ns)) ∧ ns.length = m ∧ ∀ j, j < m → ∃ p, ps[i + j]? = some p ∧ rdP p (gtD ns (j : Int), true) := by
  intro m
  induction m with
  | zero =>
    intro i k acc hi hk ha
    have hd : ps.drop i = [] := List.drop_eq_nil_of_le (by omega)
    rcases hk with hk | ⟨_, p, hp, _⟩
    · obtain ⟨k, rfl⟩ : ∃ z, k = z + 1 := ⟨k - 1, by omega⟩
      obtain rfl : i = ps.length := by omega
      refine .inr ⟨[], ?_, rfl, fun j hj => by omega⟩
      rw [M_impl_ParseFeatures_L0, lt_f, cond_false, List.append_nil]
    · rw [hd] at hp; cases hp
  | succ m ih =>
    intro i k acc hi hk ha
    obtain ⟨k, rfl⟩ : ∃ z, k = z + 1 := ⟨k - 1, by rcases hk with hk | ⟨hk, _⟩ <;> omega⟩
    have hlt : i < ps.length := by omega
    have hx := List.getElem?_eq_getElem hlt
    have hpl := hp _ (List.getElem_mem hlt)
    have hcl := cut_le ps[i] [61]
    obtain ⟨r, hr, hrd⟩ := implPI_t (fu := fu) (s := (Lib.cut ps[i] [61]).2.1) (by omega)
    have hdrop : ps.drop i = ps[i] :: ps.drop (i + 1) := List.drop_eq_getElem_cons hlt
    rw [M_impl_ParseFeatures_L0, lt_t hlt, cond_true, ck_t (inR_t hlt), gtD_get hx, cutM_t (by omega), cl_true, hr, cl_true]
    cases hb : r.2
    · have hr0 : r = (0, false) := by
        rcases hrd with ⟨n, _, rfl⟩ | ⟨_, rfl⟩
        · cases hb
        · rfl
      left
      refine ⟨by rw [Bool.not_false, cond_true], ps[i], by rw [hdrop]; exact List.mem_cons_self, ?_⟩
      unfold rdP
      rw [hr0] at hrd
      exact hrd
    · rw [Bool.not_true, cond_false, ck_t (lenOK_t (by simp; omega)), ck_t (i64B_n (by omega)), succ_i]
      have hr1 : r = (r.1, true) := by rw [← hb]
      have hk' : m < k ∨ (m ≤ k ∧ ∃ p ∈ ps.drop (i + 1), rdP p (0, false)) := by
        rcases hk with hk | ⟨hk, p, hpm, hpr⟩
        · exact .inl (by omega)
        · refine .inr ⟨by omega, p, ?_, hpr⟩
          rw [hdrop] at hpm
          rcases List.mem_cons.1 hpm with rfl | hpm
          · have := RdI.one hpr hrd
            rw [hr1] at this
            exact Bool.noConfusion (congrArg Prod.snd this)
          · exact hpm
      rcases ih (i + 1) k (acc ++ [r.1]) (by omega) hk' (by simp; omega) with ⟨h1, p, h2, h3⟩ | ⟨ns, h1, h2, h3⟩
      · exact .inl ⟨h1, p, by rw [hdrop]; exact List.mem_cons_of_mem _ h2, h3⟩
      · refine .inr ⟨r.1 :: ns, ?_, by simp [h2], fun j hj => ?_⟩
        · rw [h1, List.append_assoc]; rfl
        · cases j with
          | zero => exact ⟨ps[i], by rw [Nat.add_zero]; exact hx, by rw [gtD_get (x := r.1) (by rfl)]; rw [hr1] at hrd; exact hrd⟩
          | succ j =>
            obtain ⟨p, h4, h5⟩ := h3 j (by omega)
            refine ⟨p, by rw [← h4]; congr 1; omega, ?_⟩
            have e : gtD (r.1 :: ns) ((j + 1 : Nat) : Int) = gtD ns (j : Int) := by
              unfold gtD
              simp
            rw [e]
            exact h5
/-- the reference's loop over few parts -/
theorem specLoop {fu : Nat} {ps : List (List UInt8)} (hf : 1048577 ≤ fu) (hn : ps.length ≤ 1048577) (hp : ∀ p ∈ ps, p.length ≤ 1048576) : ∀ m i k acc, (i + m = ps.length ∨ (m = 0 ∧ i ≤ ps.length ∧ 7 ≤ i) ∨ (i ≤ ps.length ∧ i + m = 7)) → i ≤ 7 → m < k → acc.length = i →
    ∃ ns : List Int, M_spec_ParseFeatures_L0 fu ps k (i : Int) acc = some (acc ++ ns) ∧ i + ns.length ≤ 7 ∧ ((i + ns.length = ps.length) ∨ i + ns.length = 7) ∧ ∀ j, j < ns.length → ∃ p b, ps[i + j]? = some p ∧ RdI (gtD (spC 61 p) (((spC 61 p).length : Int) - 1)) (gtD ns (j : Int), b) := by
  intro m
  induction m with
  | zero =>
    intro i k acc hi h7 hk ha
    obtain ⟨k, rfl⟩ : ∃ z, k = z + 1 := ⟨k - 1, by omega⟩
    refine ⟨[], ?_, by simpa using h7, by simp only [List.length_nil]; omega, fun j hj => by simp at hj⟩
    have hc : (decide ((i : Int) < (ps.length : Int)) && decide ((i : Int) ≤ 6)) = false := by
      rw [Bool.and_eq_false_imp, decide_eq_true_eq, decide_eq_false_iff_not]
      omega
    rw [M_spec_ParseFeatures_L0, bd_eq, hc, cond_false, List.append_nil]
  | succ m ih =>
    intro i k acc hi h7 hk ha
    obtain ⟨k, rfl⟩ : ∃ z, k = z + 1 := ⟨k - 1, by omega⟩
    by_cases hlt : i < ps.length
    · by_cases h6 : i ≤ 6
      · have hx := List.getElem?_eq_getElem hlt
        have hpl := hp _ (List.getElem_mem hlt)
        have hc : (decide ((i : Int) < (ps.length : Int)) && decide ((i : Int) ≤ 6)) = true := by
          rw [Bool.and_eq_true, decide_eq_true_eq, decide_eq_true_eq]
          omega
        have hne := List.length_pos_iff.2 (spC_ne 61 ps[i])
        have hcl := spC_len 61 ps[i]
        have hmem : gtD (spC 61 ps[i]) (((spC 61 ps[i]).length : Int) - 1) ∈ spC 61 ps[i] := by
          have : (((spC 61 ps[i]).length : Int) - 1) = (((spC 61 ps[i]).length - 1 : Nat) : Int) := by omega
          rw [this, gtD_get (List.getElem?_eq_getElem (show (spC 61 ps[i]).length - 1 < _ by omega))]
          exact List.getElem_mem _
        have hml := spC_mem 61 ps[i] _ hmem
        obtain ⟨r, hr, hrd⟩ := specPI_t (fu := fu) (s := gtD (spC 61 ps[i]) (((spC 61 ps[i]).length : Int) - 1)) hf (by omega)
        obtain ⟨ns, h1, h2, h3, h4⟩ := ih (i + 1) k (acc ++ [r.1]) (by omega) (by omega) (by omega) (by simp; omega)
        refine ⟨r.1 :: ns, ?_, by simp only [List.length_cons]; omega, by simp only [List.length_cons]; omega, fun j hj => ?_⟩
        · have hcut : M_spec_l2Cut fu ps[i] (61 : Int) = some (spC 61 ps[i]) := l2Cut_t (c := 61) hf (by omega)
          rw [M_spec_ParseFeatures_L0, bd_eq, hc, cond_true, ck_t (inR_t hlt), gtD_get hx, hcut, cl_true, ck_t (i64B_t (by omega) (by omega)), ck_t (inR_iff.2 ⟨by omega, by omega⟩), hr, cl_true, ck_t (lenOK_t (by simp; omega)), ck_t (i64B_n (by omega)), succ_i, h1, List.append_assoc]
          rfl
        · cases j with
          | zero => exact ⟨ps[i], r.2, by rw [Nat.add_zero]; exact hx, by rw [gtD_get (x := r.1) (by rfl)]; exact hrd⟩
          | succ j =>
            obtain ⟨p, b, h5, h6⟩ := h4 j (by simp only [List.length_cons] at hj; omega)
            refine ⟨p, b, by rw [← h5]; congr 1; omega, ?_⟩
            have e : gtD (r.1 :: ns) ((j + 1 : Nat) : Int) = gtD ns (j : Int) := by
              unfold gtD
              simp
            rw [e]
            exact h6
      · refine ⟨[], ?_, by simpa using h7, by simp only [List.length_nil]; omega, fun j hj => by simp at hj⟩
        have hc : (decide ((i : Int) < (ps.length : Int)) && decide ((i : Int) ≤ 6)) = false := by
          rw [Bool.and_eq_false_imp, decide_eq_true_eq, decide_eq_false_iff_not]
          omega
        rw [M_spec_ParseFeatures_L0, bd_eq, hc, cond_false, List.append_nil]
    · refine ⟨[], ?_, by simpa using h7, by simp only [List.length_nil]; omega, fun j hj => by simp at hj⟩
      have hc : (decide ((i : Int) < (ps.length : Int)) && decide ((i : Int) ≤ 6)) = false := by
        rw [Bool.and_eq_false_imp, decide_eq_true_eq, decide_eq_false_iff_not]
        omega
      rw [M_spec_ParseFeatures_L0, bd_eq, hc, cond_false, List.append_nil]
theorem list6 {xs ns : List Int} (hl : ns.length = xs.length) (h : ∀ j, j < ns.length → gtD ns (j : Int) = gtD xs (j : Int)) : ns = xs := by
  apply List.ext_getElem hl
  intro j h1 h2
  have := h j h1
  rwa [gtD_get (List.getElem?_eq_getElem h1), gtD_get (List.getElem?_eq_getElem h2)] at this
/-- what the program gives -/
theorem implPF_t {fu : Nat} {s : List UInt8} (hf : 1048577 ≤ fu) (hs : s.length ≤ 1048576) : ∃ r, M_impl_ParseFeatures fu s = some r ∧ (r = ([], false) ∨ ∃ f : List Int, r = (f, true) ∧ fmt f = s) ∧ ∀ v, fvB v = true → fmt v = s → r = (v, true) := by
  unfold M_impl_ParseFeatures
  have hlen := spC_len 32 s
  rw [split_t hs, cl_true]
  have hp : ∀ p ∈ spC 32 s, p.length ≤ 1048576 := fun p hm => Nat.le_trans (spC_mem 32 s p hm) hs
  have hk : (spC 32 s).length < fu ∨ ((spC 32 s).length ≤ fu ∧ ∃ p ∈ (spC 32 s).drop 0, rdP p (0, false)) := by
    rcases Nat.lt_or_ge (spC 32 s).length fu with h | h
    · exact .inl h
    · refine .inr ⟨by omega, ?_⟩
      have : ¬ ∀ x ∈ spC 32 s, x ≠ [] := fun h' => by have := spC_few 32 s h'; omega
      have : ([] : List UInt8) ∈ spC 32 s := Classical.byContradiction fun hn => this fun x hx e => hn (e ▸ hx)
      refine ⟨[], by simpa using this, .inr ⟨fun n hn => ?_, rfl⟩⟩
      have := (isI_scan hn).2.1
      simp [Lib.cut, Lib.index] at this
  rcases implLoop (fu := fu) (ps := spC 32 s) (by omega) hp (spC 32 s).length 0 fu [] (by omega) hk rfl with ⟨h1, p, h2, h3⟩ | ⟨ns, h1, h2, h3⟩
  · refine ⟨([], false), ?_, .inl rfl, fun v hv he => ?_⟩
    · rw [show (0 : Int) = ((0 : Nat) : Int) from rfl, h1, cl_true]
      rfl
    · obtain ⟨_, k2, k3, k4⟩ := fmt_parts hv
      rw [he] at k2
      rw [k2, List.drop_zero] at h2
      obtain ⟨i, hi, rfl⟩ := List.mem_map.1 h2
      have hi := List.mem_range.1 hi
      obtain ⟨k5, _, k6, _⟩ := k4 i hi
      unfold rdP at h3
      rw [k5] at h3
      exact absurd k6 (RdI.no h3 _)
  · have hnl : ns.length ≤ 1048576 := by
      have : ∀ x ∈ spC 32 s, x ≠ [] := fun x hx e => by
        obtain ⟨j, hj, rfl⟩ := List.mem_iff_getElem.1 hx
        obtain ⟨p, h4, h5⟩ := h3 j hj
        rw [Nat.zero_add, List.getElem?_eq_getElem hj] at h4
        injection h4 with h4
        subst h4
        rw [e] at h5
        rcases h5 with ⟨n, hn, _⟩ | ⟨_, h5⟩
        · have := (isI_scan hn).2.1
          simp [Lib.cut, Lib.index] at this
        · exact Bool.noConfusion (congrArg Prod.snd h5)
      have := spC_few 32 s this
      omega
    rw [show (0 : Int) = ((0 : Nat) : Int) from rfl, h1, cl_true, List.nil_append]
    show ∃ r, (cl true (M_impl_FormatFeatures fu ns) fun x23 => bif (!(x23 == s)) then (some (([] : List Int), false)) else (some (ns, true))) = some r ∧ _
    rw [implFF_t hf hnl, cl_true]
    show ∃ r, (bif (!(fmt ns == s)) then (some (([] : List Int), false)) else (some (ns, true))) = some r ∧ _
    have key : ∀ v, fvB v = true → fmt v = s → ns = v := fun v hv he => by
      obtain ⟨_, k2, k3, k4⟩ := fmt_parts hv
      rw [he] at k2
      have hl2 : ns.length = v.length := by rw [h2, k2, featsT_len]
      refine list6 hl2 fun j hj => ?_
      obtain ⟨p, h4, h5⟩ := h3 j (by omega)
      rw [k2, Nat.zero_add, featsT_at (by omega)] at h4
      injection h4 with h4
      subst h4
      obtain ⟨k5, _, k6, _⟩ := k4 j (by omega)
      unfold rdP at h5
      rw [k5] at h5
      exact congrArg Prod.fst (RdI.one h5 (.inl ⟨_, k6, rfl⟩))
    cases hc : fmt ns == s
    · refine ⟨_, by rw [Bool.not_false, cond_true], .inl rfl, fun v hv he => ?_⟩
      obtain rfl := key v hv he
      rw [he, beq_self_eq_true] at hc
      cases hc
    · exact ⟨_, by rw [Bool.not_true, cond_false], .inr ⟨ns, rfl, by simpa using hc⟩, fun v hv he => by rw [key v hv he]⟩
/-- what the reference gives -/
theorem specPF_t {fu : Nat} {s : List UInt8} (hf : 1048577 ≤ fu) (hs : s.length ≤ 1048576) : ∃ r, M_spec_ParseFeatures fu s = some r ∧ (r = ([], false) ∨ ∃ f : List Int, r = (f, true) ∧ fmt f = s ∧ s ≠ []) ∧ ∀ v, fvB v = true → fmt v = s → r = (v, true) := by
  unfold M_spec_ParseFeatures
  have hlen := spC_len 32 s
  have hcut : M_spec_l2Cut fu s (32 : Int) = some (spC 32 s) := l2Cut_t (c := 32) hf hs
  rw [hcut, cl_true]
  have hp : ∀ p ∈ spC 32 s, p.length ≤ 1048576 := fun p hm => Nat.le_trans (spC_mem 32 s p hm) hs
  have hst : ∃ m, (0 + m = (spC 32 s).length ∨ (m = 0 ∧ 0 ≤ (spC 32 s).length ∧ 7 ≤ 0) ∨ (0 ≤ (spC 32 s).length ∧ 0 + m = 7)) ∧ m < fu := ⟨7, .inr (.inr ⟨Nat.zero_le _, rfl⟩), by omega⟩
  obtain ⟨m, hm, hmf⟩ := hst
  obtain ⟨ns, h1, h2, h3, h4⟩ := specLoop (fu := fu) (ps := spC 32 s) hf (by omega) hp m 0 fu [] hm (by omega) hmf rfl
  rw [show (0 : Int) = ((0 : Nat) : Int) from rfl, h1, cl_true, List.nil_append, specFF_t hf (by omega), cl_if]
  have key : ∀ v, fvB v = true → fmt v = s → ns = v := fun v hv he => by
    obtain ⟨_, k2, k3, k4⟩ := fmt_parts hv
    rw [he] at k2
    have hl2 : ns.length = v.length := by
      have h7 : ¬ ns.length = 7 := fun h7 => by
        obtain ⟨p, b, h5, _⟩ := h4 6 (by omega)
        have := (List.getElem?_eq_some_iff.1 h5).1
        rw [k2, featsT_len, k3] at this
        omega
      rw [k2, featsT_len, k3] at h3
      omega
    refine list6 hl2 fun j hj => ?_
    obtain ⟨p, b, h5, h6⟩ := h4 j hj
    rw [k2, Nat.zero_add, featsT_at (by omega)] at h5
    injection h5 with h5
    subst h5
    obtain ⟨_, k5, k6, _⟩ := k4 j (by omega)
    rw [k5] at h6
    have e : gtD [gtD featL (j : Int), Lib.itoa (gtD v (j : Int))] (((([gtD featL (j : Int), Lib.itoa (gtD v (j : Int))] : List (List UInt8)).length : Nat) : Int) - 1) = Lib.itoa (gtD v (j : Int)) := rfl
    rw [e] at h6
    exact congrArg Prod.fst (RdI.one h6 (.inl ⟨_, k6, rfl⟩))
  rw [bd_eq]
  cases h0 : s == []
  · have hs0 : s ≠ [] := by simpa using h0
    show ∃ r, (bif (false || !(fmt ns == s)) then (some (([] : List Int), false)) else (some (ns, true))) = some r ∧ _
    cases hc : fmt ns == s
    · refine ⟨_, by rw [Bool.not_false, Bool.or_true, cond_true], .inl rfl, fun v hv he => ?_⟩
      obtain rfl := key v hv he
      rw [he, beq_self_eq_true] at hc
      cases hc
    · exact ⟨_, by rw [Bool.not_true, Bool.or_false, cond_false], .inr ⟨ns, rfl, by simpa using hc, hs0⟩, fun v hv he => by rw [key v hv he]⟩
  · refine ⟨_, by rw [Bool.true_or, cond_true], .inl rfl, fun v hv he => ?_⟩
    exact absurd ((by simpa using h0 : s = []) ▸ he) (fmt_parts hv).1
theorem fmt_fv {f : List Int} {s : List UInt8} (h : fmt f = s) (hs : s ≠ []) : fvB f = true := by
  unfold fmt at h
  cases hv : fvB f
  · rw [hv, cond_false] at h
    exact absurd h.symm hs
  · rfl
theorem hs_ParseFeatures {a0 : List UInt8} (h0 : qB a0) (hx : a0.length ≤ 1048576) : ∃ r : List Int × Bool, M_spec_ParseFeatures 1048577 a0 = some r ∧ M_impl_ParseFeatures 1048577 a0 = some r ∧ w_IntS r.1 ≤ 1048576 := by
  obtain ⟨r, h1, h2, h3⟩ := implPF_t (Nat.le_refl _) hx
  obtain ⟨q, k1, k2, k3⟩ := specPF_t (Nat.le_refl _) hx
  have fin : ∀ v, fvB v = true → w_IntS v ≤ 1048576 := fun v hv => by
    have := (fv_nums hv).1
    unfold w_IntS
    have hz : ∀ v : List Int, wL (fun _ => 0) v = v.length := fun v => by
      unfold wL
      have : (v.map fun _ : Int => 0).sum = 0 := by
        induction v with
        | nil => rfl
        | cons x xs ih => simp [ih]
      omega
    rw [hz]
    omega
  rcases k2 with rfl | ⟨f, rfl, hf, hs⟩
  · rcases h2 with rfl | ⟨f, rfl, hf⟩
    · exact ⟨_, k1, h1, by decide⟩
    · -- the program reads a vector: the reference too
      by_cases hs : a0 = []
      · subst hs
        exfalso
        have := h1
        unfold M_impl_ParseFeatures at this
        rw [split_t (by simp), cl_true, M_impl_ParseFeatures_L0] at this
        have hc : Lib.cut ([] : List UInt8) [61] = ([], [], false) := by simp [Lib.cut, Lib.index]
        obtain ⟨r, hr, hrd⟩ := implPI_t (fu := 1048577) (s := ([] : List UInt8)) (by simp)
        have hr0 : r = (0, false) := by
          rcases hrd with ⟨n, hn, _⟩ | ⟨_, rfl⟩
          · exact absurd (isI_scan hn).2.1 (by simp)
          · rfl
        subst hr0
        have e : gtD (spC 32 ([] : List UInt8)) 0 = [] := rfl
        rw [show decide ((0 : Int) < (((spC 32 ([] : List UInt8)).length : Nat) : Int)) = true from rfl, cond_true, ck_t (inR_iff.2 ⟨Int.le_refl _, by simp [spC]⟩), e, cutM_t (by simp), cl_true, hc] at this
        dsimp only at this
        rw [hr, cl_true] at this
        have h9 : some (([] : List Int), false) = some (f, true) := this
        cases h9
      · have := k3 f (fmt_fv hf hs) hf
        cases this
  · have hv := fmt_fv hf hs
    have := h3 f hv hf
    subst this
    exact ⟨_, k1, h1, fin f hv⟩
end Go.Proofs.YtcodfkieaoomnaaDoor

