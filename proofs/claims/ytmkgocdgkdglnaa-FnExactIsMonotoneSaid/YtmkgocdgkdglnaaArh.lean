/- Plain: tests, rules and rule sets that hold, program and reference alike. No statement of the seat is proved here. -/
import Derived.Test.YtmkgocdgkdglnaaAfvr
namespace Go.Proofs.Ytmkgocdgkdglnaa
open Go.RowKit
set_option linter.unusedVariables false
set_option linter.unusedSimpArgs false

def tstH (f : List Int) (t : TTst) : Bool := (fvB f && inI t.1 0 5) && (decide (gtD f t.1 < t.2.1) == t.2.2)
theorem fv_len {f : List Int} (h : fvB f = true) : f.length = 6 := by
  unfold fvB at h
  rw [Bool.and_eq_true] at h
  have := h.2
  simp at this
  omega
theorem tst_ck {f : List Int} {t : TTst} : (!(true && ((fvB f && bif (true && (fvB f == true)) then inI t.1 0 5 else default) == true)) || inR t.1 f.length) = true := by
  cases hv : fvB f
  · rfl
  · cases hi : inI t.1 0 5
    · rfl
    · have h1 := inI_iff.1 hi
      have h2 := fv_len hv
      rw [inR_i (by omega) (by omega), Bool.or_true]
theorem implTst_t {fu : Nat} {f : List Int} {t : TTst} (hn : f.length ≤ 1048576) (hf : 1048577 ≤ fu) : M_impl_TestHolds fu t f = some (tstH f t) := by
  unfold M_impl_TestHolds tstH
  have h1 : M_impl_isFeature fu t.1 = some (inI t.1 0 5) := rfl
  rw [impl_fv hn hf, cl_true, h1, cl_if, bd_eq, ck_t tst_ck, bd_eq]
  cases fvB f <;> rfl
theorem specTst_t {fu : Nat} {f : List Int} {t : TTst} (hn : f.length ≤ 1048576) (hf : 1048577 ≤ fu) : M_spec_TestHolds fu t f = some (tstH f t) := by
  unfold M_spec_TestHolds tstH
  rw [spec_fv hn hf, cl_true, l1In_t, cl_if, bd_eq, ck_t tst_ck, bd_eq]
  have e : decide (t.2.1 ≤ gtD f t.1) = !decide (gtD f t.1 < t.2.1) := dec_not (by omega)
  rw [e]
  cases fvB f <;> cases inI t.1 0 5 <;> cases decide (gtD f t.1 < t.2.1) <;> cases t.2.2 <;> rfl
def rulH (f : List Int) (l : List TTst) : Bool := fvB f && !(l.any fun t => !(tstH f t))
theorem ixI_any : ∀ (bs : List Bool) (i : Nat), (ixI i bs).isSome = bs.any id
  | [], i => rfl
  | b :: bs, i => by
    rw [ixI, List.any_cons]
    cases b
    · exact ixI_any bs (i + 1)
    · rfl
theorem map_any {α : Type} {p : α → Bool} (l : List α) : (l.map p).any id = l.any p := by rw [List.any_map]; rfl
theorem containsT_t {fu : Nat} {l : List TTst} {F : TTst → Option Bool} {p : TTst → Bool} (hF : ∀ x, F x = some (p x)) (hf : 1048577 ≤ fu) (hl : l.length ≤ 1048576) : M_slices_ContainsFunc_impl_Test_impl_Test fu l F = some (l.any p) := by
  unfold M_slices_ContainsFunc_impl_Test_impl_Test M_slices_IndexFunc_impl_Test_impl_Test
  have h := loop_ix (xs := l) (p := p) (L := M_slices_IndexFunc_impl_Test_impl_Test_L0 fu l F) (fun k i x hx => by
    have hi := at_lt hx
    rw [M_slices_IndexFunc_impl_Test_impl_Test_L0, lt_t hi, cond_true, ck_t (inR_t hi), gtD_get hx, hF, cl_true, ck_t (i64B_n (by omega)), succ_i]) (fun k => by rw [M_slices_IndexFunc_impl_Test_impl_Test_L0, lt_f]; rfl) (show l.length < fu by omega)
  have h2 := ixI_any (l.map p) 0
  rw [map_any] at h2
  rw [h, cl_true, ← h2]
  cases ixI 0 (l.map p) with
  | none => rfl
  | some j =>
    show some (decide ((0 : Int) ≤ (j : Int))) = _
    rw [decide_eq_true (by omega)]
    rfl
theorem implRul_t {fu : Nat} {f : List Int} {l : List TTst} (hn : f.length ≤ 1048576) (hl : l.length ≤ 1048576) (hf : 1048577 ≤ fu) : M_impl_RuleHolds fu l f = some (rulH f l) := by
  unfold M_impl_RuleHolds rulH
  rw [impl_fv hn hf, cl_true, containsT_t (F := fun x => M_impl_RuleHolds_1 fu x f) (p := fun t => !(tstH f t)) (fun x => by unfold M_impl_RuleHolds_1; rw [implTst_t hn hf, cl_true]) hf hl, cl_if, bd_eq]
  cases fvB f <;> rfl
theorem specRul_t {fu : Nat} {f : List Int} {l : List TTst} (hn : f.length ≤ 1048576) (hl : l.length ≤ 1048576) (hf : 1048577 ≤ fu) : M_spec_RuleHolds fu l f = some (rulH f l) := by
  unfold M_spec_RuleHolds rulH
  have h := loop_any (xs := l) (p := fun t => !(tstH f t)) (r := false) (L := M_spec_RuleHolds_L0 fu l f) (fun k i t ht => by
    have hi := at_lt ht
    rw [M_spec_RuleHolds_L0, lt_t hi, cond_true, ck_t (inR_t hi), gtD_get ht, specTst_t hn hf, cl_true, ck_t (i64B_n (by omega)), succ_i]) (fun k => by rw [M_spec_RuleHolds_L0, lt_f]; rfl) (show l.length < fu by omega)
  rw [h, cl_true]
  cases l.any fun t => !(tstH f t)
  · rw [cond_false, exM_go', spec_fv hn hf, cl_true, Bool.not_false, Bool.and_true]
  · rw [cond_true, exM_ret, Bool.not_true, Bool.and_false]
def fstR (r : List (List TTst)) (f : List Int) : Int := bif rsB r then (match ixI 0 (r.map (rulH f)) with | some i => (i : Int) | none => -1) else -1
theorem implFst_t {fu : Nat} {f : List Int} {r : List (List TTst)} (hn : f.length ≤ 1048576) (hr : RsOK r) (hf : 1048577 ≤ fu) : M_impl_FirstRule fu r f = some (fstR r f) := by
  unfold M_impl_FirstRule fstR
  rw [implRs_t hf hr, cl_true]
  cases hv : rsB r
  · rfl
  · rw [Bool.not_true, cond_false, cond_true]
    unfold M_slices_IndexFunc_impl_Rule_impl_Rule
    have hl := hr.1
    have h := loop_ix (xs := r) (p := rulH f) (L := M_slices_IndexFunc_impl_Rule_impl_Rule_L0 fu r (fun x => M_impl_FirstRule_1 fu x f)) (fun k i x hx => by
      have hi := at_lt hx
      have h1 : M_impl_FirstRule_1 fu x f = some (rulH f x) := by unfold M_impl_FirstRule_1; rw [implRul_t hn (hr.2 x (at_mem hx)) hf, cl_true]
      rw [M_slices_IndexFunc_impl_Rule_impl_Rule_L0, lt_t hi, cond_true, ck_t (inR_t hi), gtD_get hx, h1, cl_true, ck_t (i64B_n (by omega)), succ_i]) (fun k => by rw [M_slices_IndexFunc_impl_Rule_impl_Rule_L0, lt_f]; rfl) (show r.length < fu by omega)
    rw [h, cl_true]
    cases ixI 0 (r.map (rulH f)) <;> rfl
theorem specFst_t {fu : Nat} {f : List Int} {r : List (List TTst)} (hn : f.length ≤ 1048576) (hr : RsOK r) (hf : 1048577 ≤ fu) : M_spec_FirstRule fu r f = some (fstR r f) := by
  unfold M_spec_FirstRule fstR
  cases hv : rsB r
  · obtain ⟨k, rfl⟩ : ∃ k, fu = k + 1 := ⟨fu - 1, by omega⟩
    rw [M_spec_FirstRule_L0, specRs_t hf hr, hv, cl_if, bd_eq]
    cases decide ((0 : Int) < (r.length : Int)) <;> rfl
  · have hl := hr.1
    have h := loop_ix (xs := r) (p := rulH f) (L := M_spec_FirstRule_L0 fu r f) (fun k i x hx => by
      have hi := at_lt hx
      rw [M_spec_FirstRule_L0, lt_t hi, specRs_t hf hr, hv, cl_if, bd_eq, show ((true && bif (true && (true == true)) then true else default) = true) from rfl, cond_true, ck_t (inR_t hi), gtD_get hx, specRul_t hn (hr.2 x (at_mem hx)) hf, cl_true, ck_t (i64B_n (by omega)), succ_i]) (fun k => by
      rw [M_spec_FirstRule_L0, lt_f, specRs_t hf hr, hv, cl_if, bd_eq]
      rfl) (show r.length < fu by omega)
    rw [h, cl_true]
    cases ixI 0 (r.map (rulH f)) <;> rfl
def holdB (r : List (List TTst)) (f : List Int) : Bool := decide (0 ≤ fstR r f)
theorem implHold_t {fu : Nat} {f : List Int} {r : List (List TTst)} (hn : f.length ≤ 1048576) (hr : RsOK r) (hf : 1048577 ≤ fu) : M_impl_RulesHold fu r f = some (holdB r f) := by
  unfold M_impl_RulesHold
  rw [implFst_t hn hr hf, cl_true]
  rfl
theorem specHold_t {fu : Nat} {f : List Int} {r : List (List TTst)} (hn : f.length ≤ 1048576) (hr : RsOK r) (hf : 1048577 ≤ fu) : M_spec_RulesHold fu r f = some (holdB r f) := by
  unfold M_spec_RulesHold
  rw [specFst_t hn hr hf, cl_true]
  rfl
end Go.Proofs.Ytmkgocdgkdglnaa

