/- Plain: rules, program and reference alike. No statement of the seat is proved here. -/
import Derived.Test.YtmkgocdgkdglnaaAsi
namespace Go.Proofs.Ytmkgocdgkdglnaa
open Go.RowKit
set_option linter.unusedVariables false
set_option linter.unusedSimpArgs false

abbrev TTst := Int × Int × Bool
def tstX (t : TTst) : Bool := !(inI t.1 0 5) || !(inI t.2.1 1 1000)
def tstsB (l : List TTst) : Bool := !(adjAny tstX (fun p x => tstX x || decide (x.1 ≤ p.1)) l)
def ruleB (l : List TTst) : Bool := inI (l.length : Int) 1 3 && tstsB l
def rsB (r : List (List TTst)) : Bool := inI (r.length : Int) 1 3 && !(r.any fun l => !(ruleB l))
def RsOK (r : List (List TTst)) : Prop := r.length ≤ 1048576 ∧ ∀ l ∈ r, l.length ≤ 1048576
theorem specTsts_t {fu : Nat} {r : List (List TTst)} {l : List TTst} {i : Nat} (hl : r[i]? = some l) (hf : 1048577 ≤ fu) (hn : l.length ≤ 1048576) : M_spec_IsValidRules_L1 fu r (i : Int) fu (0 : Int) = some (bif tstsB l then .go () else .ret false) := by
  have h := loop_adj (xs := l) (b0 := tstX) (b := fun p x => tstX x || decide (x.1 ≤ p.1)) (r := false) (L := M_spec_IsValidRules_L1 fu r (i : Int)) (fun k x hx => by
    have hi := at_lt hx
    rw [M_spec_IsValidRules_L1, gtD_get hl, lt_0 hi, cond_true]
    simp only [inR_0 hi, gtD_0 hx, one_i, i64B_1, no_00, bd_eq, l1In_t, cl_if, Bool.or_true, ck_tt, tstX]
    cases inI x.1 0 5 <;> cases inI x.2.1 1 1000 <;> rfl) (fun k j q x hq hx => by
    have hi := at_lt hx
    have hi' := at_lt hq
    rw [M_spec_IsValidRules_L1, gtD_get hl, lt_t hi, cond_true]
    simp only [inR_t hi, inR_t hi', gtD_get hx, pred_i, gtD_get hq, pos_i, bd_eq, l1In_t, cl_if, i64B_i j (by omega), Bool.or_true, ck_tt, i64B_c (show j + 1 ≤ 4294967296 by omega), succ_i, tstX]
    cases inI x.1 0 5 <;> cases inI x.2.1 1 1000 <;> cases decide (x.1 ≤ q.1) <;> rfl) (fun k => by rw [M_spec_IsValidRules_L1, gtD_get hl, lt_f]; rfl) (show l.length < fu by omega)
  rw [h]
  unfold tstsB
  cases adjAny tstX (fun p x => tstX x || decide (x.1 ≤ p.1)) l <;> rfl
theorem implTsts_t {fu : Nat} {r : List (List TTst)} {l : List TTst} {i : Nat} (hl : r[i]? = some l) (hf : 1048577 ≤ fu) (hn : l.length ≤ 1048576) : M_impl_IsValidRules_L1 fu r (i : Int) fu (0 : Int) = some (bif tstsB l then .go () else .ret false) := by
  have h1 : ∀ x : Int, M_impl_isFeature fu x = some (inI x 0 5) := fun x => rfl
  have h2 : ∀ x : Int, M_impl_isThreshold fu x = some (inI x 1 1000) := fun x => rfl
  have h := loop_adj (xs := l) (b0 := tstX) (b := fun p x => tstX x || decide (x.1 ≤ p.1)) (r := false) (L := M_impl_IsValidRules_L1 fu r (i : Int)) (fun k x hx => by
    have hi := at_lt hx
    rw [M_impl_IsValidRules_L1, gtD_get hl, lt_0 hi, cond_true]
    simp only [inR_0 hi, gtD_0 hx, one_i, i64B_1, no_00, bd_eq, h1, h2, cl_if, Bool.or_true, ck_tt, tstX]
    cases inI x.1 0 5 <;> cases inI x.2.1 1 1000 <;> rfl) (fun k j q x hq hx => by
    have hi := at_lt hx
    have hi' := at_lt hq
    rw [M_impl_IsValidRules_L1, gtD_get hl, lt_t hi, cond_true]
    simp only [inR_t hi, inR_t hi', gtD_get hx, pred_i, gtD_get hq, pos_i, bd_eq, h1, h2, cl_if, i64B_i j (by omega), Bool.or_true, ck_tt, i64B_c (show j + 1 ≤ 4294967296 by omega), succ_i, tstX]
    cases inI x.1 0 5 <;> cases inI x.2.1 1 1000 <;> cases decide (x.1 ≤ q.1) <;> rfl) (fun k => by rw [M_impl_IsValidRules_L1, gtD_get hl, lt_f]; rfl) (show l.length < fu by omega)
  rw [h]
  unfold tstsB
  cases adjAny tstX (fun p x => tstX x || decide (x.1 ≤ p.1)) l <;> rfl
theorem specRs_t {fu : Nat} {r : List (List TTst)} (hf : 1048577 ≤ fu) (hr : RsOK r) : M_spec_IsValidRules fu r = some (rsB r) := by
  unfold M_spec_IsValidRules
  have h := loop_any (xs := r) (p := fun l => !(ruleB l)) (r := false) (L := M_spec_IsValidRules_L0 fu r) (fun k i l hl => by
    have hi := at_lt hl
    have hn := hr.1
    rw [M_spec_IsValidRules_L0, lt_t hi, cond_true, specTsts_t hl hf (hr.2 l (at_mem hl)), gtD_get hl]
    simp only [inR_t hi, ck_tt, cl_true, l1In_t, i64B_c (show i ≤ 4294967296 by omega), succ_i, ruleB]
    cases tstsB l <;> cases inI (l.length : Int) 1 3 <;> rfl) (fun k => by rw [M_spec_IsValidRules_L0, lt_f]; rfl) (show r.length < fu by have := hr.1; omega)
  rw [h, cl_true]
  unfold rsB
  cases r.any fun l => !(ruleB l)
  · rw [cond_false, exM_go', l1In_t, cl_true, Bool.not_false, Bool.and_true]
  · rw [cond_true, exM_ret, Bool.not_true, Bool.and_false]
theorem implRs_t {fu : Nat} {r : List (List TTst)} (hf : 1048577 ≤ fu) (hr : RsOK r) : M_impl_IsValidRules fu r = some (rsB r) := by
  unfold M_impl_IsValidRules
  have h1 : ∀ x lo hi : Int, M_impl_within fu x lo hi = some (inI x lo hi) := fun _ _ _ => rfl
  have h := loop_any (xs := r) (p := fun l => !(ruleB l)) (r := false) (L := M_impl_IsValidRules_L0 fu r) (fun k i l hl => by
    have hi := at_lt hl
    have hn := hr.1
    rw [M_impl_IsValidRules_L0, lt_t hi, cond_true, implTsts_t hl hf (hr.2 l (at_mem hl)), gtD_get hl]
    simp only [inR_t hi, ck_tt, cl_true, h1, i64B_c (show i ≤ 4294967296 by omega), succ_i, ruleB]
    cases tstsB l <;> cases inI (l.length : Int) 1 3 <;> rfl) (fun k => by rw [M_impl_IsValidRules_L0, lt_f]; rfl) (show r.length < fu by have := hr.1; omega)
  rw [h, cl_true]
  unfold rsB
  cases r.any fun l => !(ruleB l)
  · rw [cond_false, exM_go', h1, cl_true, Bool.not_false, Bool.and_true]
  · rw [cond_true, exM_ret, Bool.not_true, Bool.and_false]
theorem inI_iff {x lo hi : Int} : inI x lo hi = true ↔ lo ≤ x ∧ x ≤ hi := by simp [inI]
theorem adjAny_false {α : Type} {b0 : α → Bool} {b : α → α → Bool} (hb : ∀ p x, b p x = false → b0 x = false) {l : List α} (h : adjAny b0 b l = false) : ∀ x ∈ l, b0 x = false := by
  have key : ∀ (l : List α) (p : α), adjB b p l = false → ∀ x ∈ l, b0 x = false := by
    intro l
    induction l with
    | nil => intro p h x hx; cases hx
    | cons y l ih =>
      intro p h x hx
      unfold adjB at h
      rw [Bool.or_eq_false_iff] at h
      rcases List.mem_cons.1 hx with rfl | hx
      · exact hb _ _ h.1
      · exact ih y h.2 x hx
  cases l with
  | nil => intro x hx; cases hx
  | cons y l =>
    unfold adjAny at h
    rw [Bool.or_eq_false_iff] at h
    intro x hx
    rcases List.mem_cons.1 hx with rfl | hx
    · exact h.1
    · exact key l y h.2 x hx
theorem rsB_len {r : List (List TTst)} (h : rsB r = true) : r.length ≤ 3 ∧ ∀ l ∈ r, l.length ≤ 3 ∧ ∀ t ∈ l, (0 ≤ t.1 ∧ t.1 ≤ 5) ∧ 1 ≤ t.2.1 ∧ t.2.1 ≤ 1000 := by
  unfold rsB at h
  rw [Bool.and_eq_true, inI_iff] at h
  obtain ⟨⟨_, h1⟩, h2⟩ := h
  refine ⟨by omega, fun l hl => ?_⟩
  have h3 : ruleB l = true := by
    cases hb : ruleB l
    · have : (r.any fun l => !(ruleB l)) = true := List.any_eq_true.2 ⟨l, hl, by rw [hb]; rfl⟩
      rw [this] at h2
      cases h2
    · rfl
  unfold ruleB at h3
  rw [Bool.and_eq_true, inI_iff] at h3
  refine ⟨by omega, fun t ht => ?_⟩
  have h4 := h3.2
  unfold tstsB at h4
  rw [Bool.not_eq_true'] at h4
  have h5 := adjAny_false (b0 := tstX) (b := fun p x => tstX x || decide (x.1 ≤ p.1)) (fun p x h => (Bool.or_eq_false_iff.1 h).1) h4 t ht
  unfold tstX at h5
  rw [Bool.or_eq_false_iff, Bool.not_eq_false', Bool.not_eq_false', inI_iff, inI_iff] at h5
  exact h5
end Go.Proofs.Ytmkgocdgkdglnaa

