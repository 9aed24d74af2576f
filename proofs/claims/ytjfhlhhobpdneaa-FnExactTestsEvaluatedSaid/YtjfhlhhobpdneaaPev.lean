/- Plain part of EvaluateDiagram and TestsEvaluated: the form's walk is the code's. No program in sight. No statement of the seat is proved here. -/
import Derived.Test.YtjfhlhhobpdneaaV6
import Derived.Test.YtjfhlhhobpdneaaPvd
namespace Go.Proofs.Ytjfhlhhobpdneaa
open Go.RowKit
set_option linter.unusedVariables false

theorem findB_none {P : Nat → Bool} : ∀ {m i : Nat}, findB P i m = none → ∀ j, i ≤ j → j < i + m → P j = false
  | 0, i, h, j, h1, h2 => by omega
  | m + 1, i, h, j, h1, h2 => by
    unfold findB at h
    cases hp : P i
    · rw [hp] at h
      rcases Nat.lt_or_ge i j with hlt | hge
      · exact findB_none (m := m) h j (by omega) (by omega)
      · obtain rfl : j = i := by omega
        exact hp
    · rw [hp] at h
      cases h
def fvB (xs : List Int) : Bool := (findB (fun k => !inI (gtD xs k) 0 1000) 0 xs.length).isNone && ((xs.length : Int) == 6)
theorem spec_fv {xs : List Int} {fu : Nat} (hn : xs.length ≤ 1048576) (hf : 1048577 ≤ fu) : M_spec_IsFeatureVector fu xs = some (fvB xs) := by
  have h := loop_find (L := M_spec_IsFeatureVector_L0 fu xs) (n := xs.length) (P := fun k => !inI (gtD xs k) 0 1000) (ret := fun _ => false) (fun k i hi => by
    rw [M_spec_IsFeatureVector_L0]
    have h1 : decide ((i : Int) < (xs.length : Int)) = true := by simpa using hi
    rw [h1, cond_true, ck_t (inR_t hi), l1In_eq, cl_true, ck_t (i64B_t (by omega) (by omega))]
    rfl) (fun k => by
    rw [M_spec_IsFeatureVector_L0]
    simp) xs.length 0 fu (by omega) (by omega)
  unfold M_spec_IsFeatureVector fvB
  rw [show ((0 : Nat) : Int) = 0 from rfl] at h
  rw [h, cl_true]
  cases findB (fun k => !inI (gtD xs k) 0 1000) 0 xs.length <;> rfl
theorem index_int {xs : List Int} {fu : Nat} {F : Int → Option Bool} {p : Int → Bool} (hF : ∀ x, F x = some (p x)) (hn : xs.length ≤ 1048576) (hf : 1048577 ≤ fu) :
    M_slices_ContainsFunc_int_int fu xs F = some (findB (fun k => p (gtD xs k)) 0 xs.length).isSome := by
  have h := loop_find (L := M_slices_IndexFunc_int_int_L0 fu xs F) (n := xs.length) (P := fun k => p (gtD xs k)) (ret := fun j => (j : Int)) (fun k i hi => by
    rw [M_slices_IndexFunc_int_int_L0]
    have h1 : decide ((i : Int) < (xs.length : Int)) = true := by simpa using hi
    rw [h1, cond_true, ck_t (inR_t hi), hF, cl_true, ck_t (i64B_t (by omega) (by omega))]
    rfl) (fun k => by
    rw [M_slices_IndexFunc_int_int_L0]
    simp) xs.length 0 fu (by omega) (by omega)
  unfold M_slices_ContainsFunc_int_int M_slices_IndexFunc_int_int
  rw [show ((0 : Nat) : Int) = 0 from rfl] at h
  rw [h, cl_true]
  cases findB (fun k => p (gtD xs k)) 0 xs.length with
  | none => rfl
  | some j =>
    show some (decide ((0 : Int) ≤ (j : Int))) = _
    rw [decide_eq_true (by omega)]
    rfl
theorem impl_fv {xs : List Int} {fu : Nat} (hn : xs.length ≤ 1048576) (hf : 1048577 ≤ fu) : M_impl_IsFeatureVector fu xs = some (fvB xs) := by
  unfold M_impl_IsFeatureVector fvB
  rw [index_int (F := fun x => M_impl_IsFeatureVector_1 fu x) (p := fun x => !inI x 0 1000) (fun x => rfl) hn hf, cl_if, bd_eq]
  cases findB (fun k => !inI (gtD xs k) 0 1000) 0 xs.length <;> cases ((xs.length : Int) == 6) <;> rfl
theorem toInts {xs : List Int} {fu : Nat} (hn : xs.length ≤ 1048576) (hf : 1048577 ≤ fu) : M_laws_toIntS fu xs = some xs := by
  have h := loop_fill (L := M_laws_toIntS_L0 fu xs) (xs := xs) (fun k i ys x hi hy hx => by
    rw [M_laws_toIntS_L0]
    have h1 : decide ((i : Int) < (xs.length : Int)) = true := by simpa using hi
    rw [h1, cond_true, ck_t (inR_t hi), gtD_get hx, ck_t (inR_t (by omega)), ck_t (i64B_t (by omega) (by omega)), Int.toNat_natCast]
    rfl) (fun k ys => by
    rw [M_laws_toIntS_L0]
    simp) xs.length 0 fu (List.replicate xs.length (0 : Int)) (by omega) (by omega) (List.length_replicate) rfl
  unfold M_laws_toIntS
  rw [ck_t (by simp [mkOK]; omega)]
  rw [show ((0 : Nat) : Int) = 0 from rfl] at h
  rw [Int.toNat_natCast, h]
  rfl
theorem eqInts_step {xs : List Int} {fu : Nat} (hn : xs.length ≤ 1048576) (k i : Nat) (hi : i < xs.length) : M_laws_eqIntS_L0 fu xs xs (k + 1) ((i : Nat) : Int) = M_laws_eqIntS_L0 fu xs xs k ((i + 1 : Nat) : Int) := by
  have h1 : decide ((i : Int) < (xs.length : Int)) = true := by simpa using hi
  have h2 : i64B ((i : Int) + 1) = true := i64B_t (by omega) (by omega)
  rw [M_laws_eqIntS_L0, h1, cond_true, ck_t (inR_t hi), ck_t (inR_t hi), bne_self_eq_false, cond_false, ck_t h2]
  rfl
theorem eqInts_end {xs : List Int} {fu : Nat} (k : Nat) : M_laws_eqIntS_L0 fu xs xs (k + 1) ((xs.length : Nat) : Int) = some (.go ()) := by
  rw [M_laws_eqIntS_L0, decide_eq_false (Int.lt_irrefl _)]
  rfl
theorem eqInts_loop {xs : List Int} {fu : Nat} (hn : xs.length ≤ 1048576) (hf : 1048577 ≤ fu) : M_laws_eqIntS_L0 fu xs xs fu 0 = some (.go ()) := by
  have h := loop_find (L := M_laws_eqIntS_L0 fu xs xs) (n := xs.length) (P := fun _ => false) (ret := fun _ => false) (fun k i hi => eqInts_step hn k i hi) eqInts_end xs.length 0 fu (by omega) (by omega)
  rw [findB_no] at h
  exact h
theorem eqInts {xs : List Int} {fu : Nat} (hn : xs.length ≤ 1048576) (hf : 1048577 ≤ fu) : M_laws_eqIntS fu xs xs = some true := by
  unfold M_laws_eqIntS
  rw [eqInts_loop hn hf, bne_self_eq_false]
  rfl
theorem walk_eq {ns : List T_impl_DiagramNode} {b : Int} {xs : List Int} {fu : Nat} (hn : ns.length ≤ 1048576) (hok : ∀ i, i < ns.length → badB ns i = false) (hx : xs.length = 6) :
    ∀ (m k : Nat) (y q : Int), m < k → 0 ≤ y → y ≤ (ns.length : Int) + 1 → y ≤ m → 0 ≤ q → q + y ≤ 4194304 →
    ∃ z, M_spec_l15Walk_L0 fu (b, ns) xs k y q = some z ∧ M_impl_Diagram_follow_L0 fu (b, ns) xs k y q = some z := by
  intro m
  induction m with
  | zero =>
    intro k y q hk h0 h1 h2 h3 h4
    obtain ⟨k, rfl⟩ : ∃ j, k = j + 1 := ⟨k - 1, by omega⟩
    refine ⟨(y, q), ?_, ?_⟩
    · rw [M_spec_l15Walk_L0, decide_eq_false (by omega)]
      rfl
    · rw [M_impl_Diagram_follow_L0, decide_eq_false (by omega)]
      rfl
  | succ m ih =>
    intro k y q hk h0 h1 h2 h3 h4
    obtain ⟨k, rfl⟩ : ∃ j, k = j + 1 := ⟨k - 1, by omega⟩
    rw [M_spec_l15Walk_L0, M_impl_Diagram_follow_L0]
    by_cases hy : (1 : Int) < y
    · obtain ⟨i, hi⟩ := Int.eq_ofNat_of_zero_le (show 0 ≤ y - 2 by omega)
      have hil : i < ns.length := by omega
      have hb := hok i hil
      unfold badB chB at hb
      simp only [Bool.or_eq_false_iff, Bool.not_eq_false', Bool.and_eq_true] at hb
      obtain ⟨⟨⟨⟨⟨hf, _⟩, _⟩, _⟩, hlo, _⟩, hhi, _⟩ := hb
      have hf := inI_iff.1 hf
      have hlo := inI_iff.1 hlo
      have hhi := inI_iff.1 hhi
      rw [decide_eq_true hy, decide_eq_true (show (2 : Int) ≤ y by omega), cond_true, cond_true, ck_t (i64B_t (x := y - 2) (by omega) (by omega)), ck_t (i64B_t (x := y - 2) (by omega) (by omega)), hi,
        ck_t (inR_t (show i < (b, ns).2.length from hil)), ck_t (inR_t (show i < (b, ns).2.length from hil)), ck_t (inR_i (n := xs.length) hf.1 (by rw [hx]; exact Int.lt_of_le_of_lt hf.2 (by decide))), ck_t (inR_i (n := xs.length) hf.1 (by rw [hx]; exact Int.lt_of_le_of_lt hf.2 (by decide)))]
      have hq : i64B (q + 1) = true := i64B_t (x := q + 1) (by omega) (by omega)
      rw [hq]
      cases decide ((gtD (b, ns).2 (i : Int)).2.1 ≤ gtD xs (gtD (b, ns).2 (i : Int)).1)
      · exact ih k _ (q + 1) (by omega) hlo.1 (by have := hlo.2; show (gtD ns (i : Int)).2.2.1 ≤ _; omega) (by have := hlo.2; show (gtD ns (i : Int)).2.2.1 ≤ _; omega) (by omega) (by have := hlo.2; show q + 1 + (gtD ns (i : Int)).2.2.1 ≤ _; omega)
      · exact ih k _ (q + 1) (by omega) hhi.1 (by have := hhi.2; show (gtD ns (i : Int)).2.2.2 ≤ _; omega) (by have := hhi.2; show (gtD ns (i : Int)).2.2.2 ≤ _; omega) (by omega) (by have := hhi.2; show q + 1 + (gtD ns (i : Int)).2.2.2 ≤ _; omega)
    · refine ⟨(y, q), ?_, ?_⟩
      · rw [decide_eq_false hy]
        rfl
      · rw [decide_eq_false (by omega)]
        rfl
theorem walks {ns : List T_impl_DiagramNode} {b : Int} {xs : List Int} {fu : Nat} (hn : ns.length ≤ 1048576) (hf : 1048579 ≤ fu) (hv : vdB b ns = true) (hx : fvB xs = true) :
    ∃ z : Int × Int, M_spec_l15Walk fu (b, ns) xs = some z ∧ M_impl_Diagram_follow fu (b, ns) xs = some z := by
  unfold vdB at hv
  unfold fvB at hx
  simp only [Bool.and_eq_true, Option.isNone_iff_eq_none] at hv hx
  have hr := inI_iff.1 hv.1.2
  have hxl : xs.length = 6 := by have := hx.2; simp at this; omega
  obtain ⟨z, h1, h2⟩ := walk_eq (b := b) (fu := fu) hn (fun i hi => findB_none hv.1.1 i (by omega) (by omega)) hxl (ns.length + 1) fu b 0 (by omega) hr.1 hr.2 (by omega) (by omega) (by omega)
  refine ⟨z, ?_, ?_⟩
  · unfold M_spec_l15Walk
    rw [h1]
    rfl
  · unfold M_impl_Diagram_follow
    rw [h2]
    rfl
theorem ev_eq {ns : List T_impl_DiagramNode} {b : Int} {xs : List Int} {fu : Nat} (hn : ns.length ≤ 1048576) (hm : xs.length ≤ 1048576) (hf : 1048579 ≤ fu) :
    ∃ z, M_spec_EvaluateDiagram fu (b, ns) xs = some z ∧ M_impl_EvaluateDiagram fu (b, ns) xs = some z := by
  unfold M_spec_EvaluateDiagram M_impl_EvaluateDiagram
  rw [spec_vd hn (by omega), impl_vd hn (by omega), spec_fv hm (by omega), impl_fv hm (by omega), cl_true, cl_true]
  cases hv : vdB b ns
  · exact ⟨false, rfl, rfl⟩
  cases hx : fvB xs
  · exact ⟨false, rfl, rfl⟩
  obtain ⟨z, h1, h2⟩ := walks hn hf hv hx
  rw [h1, h2]
  exact ⟨_, rfl, rfl⟩
theorem te_eq {ns : List T_impl_DiagramNode} {b : Int} {xs : List Int} {fu : Nat} (hn : ns.length ≤ 1048576) (hm : xs.length ≤ 1048576) (hf : 1048579 ≤ fu) :
    ∃ z, M_spec_TestsEvaluated fu (b, ns) xs = some z ∧ M_impl_TestsEvaluated fu (b, ns) xs = some z := by
  unfold M_spec_TestsEvaluated M_impl_TestsEvaluated
  rw [spec_vd hn (by omega), impl_vd hn (by omega), spec_fv hm (by omega), impl_fv hm (by omega), cl_true, cl_true]
  cases hv : vdB b ns
  · exact ⟨0, rfl, rfl⟩
  cases hx : fvB xs
  · exact ⟨0, rfl, rfl⟩
  obtain ⟨z, h1, h2⟩ := walks hn hf hv hx
  rw [h1, h2]
  exact ⟨_, rfl, rfl⟩
theorem law_ev {b : Int} {ns : List T_impl_DiagramNode} {xs : List Int} (hn : ns.length ≤ maxLen) : M_laws_FnExactEvaluateDiagram 1048579 (b, ns) xs = some true := by
  obtain ⟨z, hz, hz'⟩ := szDia (b := b) (fu := 1048579) hn
  unfold M_laws_FnExactEvaluateDiagram
  by_cases hx : (1048576 : Int) < (xs.length : Int)
  · rw [decide_eq_true hx]
    rfl
  rw [decide_eq_false hx, cond_false, hz, cl_true]
  by_cases h : z < 0
  · rw [decide_eq_true h]
    rfl
  have hl := hz' (by omega)
  have hm : xs.length ≤ 1048576 := by omega
  obtain ⟨y, h1, h2⟩ := ev_eq (b := b) (fu := 1048579) hl hm (Nat.le_refl _)
  rw [decide_eq_false h, cond_false, toDia hl (by decide), cl_true, toInts hm (by decide), cl_true, h1, cl_true, cl_true, cl_true, h2, cl_true, cl_true, eqDia hl (by decide), cl_true, cl_true, eqInts hm (by decide)]
  cases y <;> rfl
theorem law_te {b : Int} {ns : List T_impl_DiagramNode} {xs : List Int} (hn : ns.length ≤ maxLen) : M_laws_FnExactTestsEvaluated 1048579 (b, ns) xs = some true := by
  obtain ⟨z, hz, hz'⟩ := szDia (b := b) (fu := 1048579) hn
  unfold M_laws_FnExactTestsEvaluated
  by_cases hx : (1048576 : Int) < (xs.length : Int)
  · rw [decide_eq_true hx]
    rfl
  rw [decide_eq_false hx, cond_false, hz, cl_true]
  by_cases h : z < 0
  · rw [decide_eq_true h]
    rfl
  have hl := hz' (by omega)
  have hm : xs.length ≤ 1048576 := by omega
  obtain ⟨y, h1, h2⟩ := te_eq (b := b) (fu := 1048579) hl hm (Nat.le_refl _)
  rw [decide_eq_false h, cond_false, toDia hl (by decide), cl_true, toInts hm (by decide), cl_true, h1, cl_true, cl_true, cl_true, h2, cl_true, cl_true, eqDia hl (by decide), cl_true, cl_true, eqInts hm (by decide), bne_self_eq_false]
  rfl
end Go.Proofs.Ytjfhlhhobpdneaa
