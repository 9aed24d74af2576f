/- Plain: indexes of sets, program and reference alike. No statement of the seat is proved here. -/
import Derived.Test.YtmgiijdejigdhaaEts
namespace Go.Proofs.Ytmgiijdejigdhaa
open Go.RowKit
set_option linter.unusedVariables false
set_option linter.unusedSimpArgs false

def tabX (x : List UInt8 × Int) : Bool := decide (x.2 < 1)
def tabB (l : List (List UInt8 × Int)) : Bool := !(adjAny tabX (fun p x => tabX x || !(bLt p.1 x.1)) l)
theorem specTab_t {fu : Nat} {l : List (List UInt8 × Int)} (hf : 1048577 ≤ fu) (hl : l.length ≤ 1048576) : M_spec_IsTokenTable fu l = some (tabB l) := by
  unfold M_spec_IsTokenTable
  have h := loop_adj (xs := l) (b0 := tabX) (b := fun p x => tabX x || !(bLt p.1 x.1)) (r := false) (L := M_spec_IsTokenTable_L0 fu l) (fun k x hx => by
    have hi := at_lt hx
    rw [M_spec_IsTokenTable_L0, lt_0 hi, cond_true]
    simp only [inR_0 hi, gtD_0 hx, one_i, i64B_1, no_00, bd_eq, tabX]
    cases decide (x.2 < 1) <;> rfl) (fun k i q x hq hx => by
    have hi := at_lt hx
    have hi' := at_lt hq
    rw [M_spec_IsTokenTable_L0, lt_t hi, cond_true]
    simp only [inR_t hi, inR_t hi', gtD_get hx, pred_i, gtD_get hq, pos_i, bd_eq, i64B_i i (by omega), Bool.or_true, ck_tt, i64B_c (show i + 1 ≤ 4294967296 by omega), succ_i, tabX]
    cases decide (x.2 < 1) <;> cases bLt q.1 x.1 <;> rfl) (fun k => by rw [M_spec_IsTokenTable_L0, lt_f]; rfl) (show l.length < fu by omega)
  rw [h, cl_true]
  unfold tabB
  cases adjAny tabX (fun p x => tabX x || !(bLt p.1 x.1)) l <;> rfl
theorem implTab_t {fu : Nat} {l : List (List UInt8 × Int)} (hf : 1048577 ≤ fu) (hl : l.length ≤ 1048576) : M_impl_IsTokenTable fu l = some (tabB l) := by
  unfold M_impl_IsTokenTable
  have h := loop_adj (xs := l) (b0 := tabX) (b := fun p x => tabX x || !(bLt p.1 x.1)) (r := false) (L := M_impl_IsTokenTable_L0 fu l) (fun k x hx => by
    have hi := at_lt hx
    rw [M_impl_IsTokenTable_L0, lt_0 hi, cond_true]
    simp only [inR_0 hi, gtD_0 hx, one_i, i64B_1, no_00, bd_eq, tabX]
    cases decide (x.2 < 1) <;> rfl) (fun k i q x hq hx => by
    have hi := at_lt hx
    have hi' := at_lt hq
    rw [M_impl_IsTokenTable_L0, lt_t hi, cond_true]
    simp only [inR_t hi, inR_t hi', gtD_get hx, pred_i, gtD_get hq, pos_i, bd_eq, i64B_i i (by omega), Bool.or_true, ck_tt, i64B_c (show i + 1 ≤ 4294967296 by omega), succ_i, tabX]
    cases decide (x.2 < 1) <;> cases bLt q.1 x.1 <;> rfl) (fun k => by rw [M_impl_IsTokenTable_L0, lt_f]; rfl) (show l.length < fu by omega)
  rw [h, cl_true]
  unfold tabB
  cases adjAny tabX (fun p x => tabX x || !(bLt p.1 x.1)) l <;> rfl
def inI (x lo hi : Int) : Bool := decide (lo ≤ x) && decide (x ≤ hi)
theorem l1In_t {fu : Nat} {x lo hi : Int} : M_spec_l1In fu x lo hi = some (inI x lo hi) := rfl
def setX (s : Int × List (List UInt8)) : Bool := !(inI s.1 0 999) || !(tokB s.2)
def setsB (l : List (Int × List (List UInt8))) : Bool := !(adjAny setX (fun p x => setX x || decide (x.1 ≤ p.1)) l)
def idxB (x : Int × List (List UInt8 × Int) × List (Int × List (List UInt8))) : Bool := (tabB x.2.1 && inI x.1 1 1000) && (decide (x.2.2.length ≤ 12) && setsB x.2.2)
/-- the index is short enough to be looked at -/
def IdxOK (x : Int × List (List UInt8 × Int) × List (Int × List (List UInt8))) : Prop := x.2.1.length ≤ 1048576 ∧ x.2.2.length ≤ 1048576 ∧ ∀ s ∈ x.2.2, s.2.length ≤ 1048576 ∧ ∀ t ∈ s.2, t.length ≤ 1048576
theorem dec_len {n : Nat} : decide ((n : Int) ≤ 12) = decide (n ≤ 12) := by
  by_cases h : n ≤ 12
  · rw [decide_eq_true h, decide_eq_true (by omega)]
  · rw [decide_eq_false h, decide_eq_false (by omega)]
theorem dec_len' {n : Nat} : decide ((12 : Int) < (n : Int)) = !(decide (n ≤ 12)) := by
  by_cases h : n ≤ 12
  · rw [decide_eq_true h, decide_eq_false (by omega)]; rfl
  · rw [decide_eq_false h, decide_eq_true (by omega)]; rfl
theorem specIdx_t {fu : Nat} {x : Int × List (List UInt8 × Int) × List (Int × List (List UInt8))} (hf : 1048577 ≤ fu) (hx : IdxOK x) : M_spec_IsValidSetIndex fu x = some (idxB x) := by
  obtain ⟨hx1, hx2, hx3⟩ := hx
  unfold M_spec_IsValidSetIndex
  have h := loop_adj (xs := x.2.2) (b0 := setX) (b := fun p s => setX s || decide (s.1 ≤ p.1)) (r := false) (L := M_spec_IsValidSetIndex_L0 fu x) (fun k s hs => by
    have hi := at_lt hs
    have ht := spec_tok (fu := fu) hf (hx3 s (at_mem hs)).1 (hx3 s (at_mem hs)).2
    rw [M_spec_IsValidSetIndex_L0, lt_0 hi, cond_true]
    simp only [inR_0 hi, gtD_0 hs, one_i, i64B_1, no_00, bd_eq, l1In_t, cl_true, ht, Bool.or_true, ck_tt, setX]
    simp only [cl_if]
    cases inI s.1 0 999 <;> cases tokB s.2 <;> rfl) (fun k i q s hq hs => by
    have hi := at_lt hs
    have hi' := at_lt hq
    have ht := spec_tok (fu := fu) hf (hx3 s (at_mem hs)).1 (hx3 s (at_mem hs)).2
    rw [M_spec_IsValidSetIndex_L0, lt_t hi, cond_true]
    simp only [inR_t hi, inR_t hi', gtD_get hs, pred_i, gtD_get hq, pos_i, bd_eq, i64B_i i (by omega), Bool.or_true, ck_tt, i64B_c (show i + 1 ≤ 4294967296 by omega), succ_i, l1In_t, cl_true, ht, setX]
    simp only [cl_if]
    cases inI s.1 0 999 <;> cases tokB s.2 <;> cases decide (s.1 ≤ q.1) <;> rfl) (fun k => by rw [M_spec_IsValidSetIndex_L0, lt_f]; rfl) (show x.2.2.length < fu by omega)
  rw [h, cl_true]
  unfold idxB setsB
  cases hs : adjAny setX (fun p s => setX s || decide (s.1 ≤ p.1)) x.2.2
  · rw [cond_false, exM_go', specTab_t hf hx1, cl_true]
    simp only [l1In_t, cl_if, bd_eq, dec_len]
    cases tabB x.2.1 <;> cases inI x.1 1 1000 <;> cases decide (x.2.2.length ≤ 12) <;> rfl
  · cases tabB x.2.1 <;> cases inI x.1 1 1000 <;> cases decide (x.2.2.length ≤ 12) <;> rfl
theorem implIdx_t {fu : Nat} {x : Int × List (List UInt8 × Int) × List (Int × List (List UInt8))} (hf : 1048577 ≤ fu) (hx : IdxOK x) : M_impl_IsValidSetIndex fu x = some (idxB x) := by
  obtain ⟨hx1, hx2, hx3⟩ := hx
  unfold M_impl_IsValidSetIndex
  have h := loop_adj (xs := x.2.2) (b0 := setX) (b := fun p s => setX s || decide (s.1 ≤ p.1)) (r := false) (L := M_impl_IsValidSetIndex_L0 fu x) (fun k s hs => by
    have hi := at_lt hs
    have ht := impl_tok (fu := fu) hf (hx3 s (at_mem hs)).1 (hx3 s (at_mem hs)).2
    have hid : M_impl_isSetID fu s.1 = some (inI s.1 0 999) := rfl
    rw [M_impl_IsValidSetIndex_L0, lt_0 hi, cond_true]
    simp only [inR_0 hi, gtD_0 hs, one_i, i64B_1, no_00, bd_eq, hid, cl_true, ht, Bool.or_true, ck_tt, setX]
    simp only [cl_if]
    cases inI s.1 0 999 <;> cases tokB s.2 <;> rfl) (fun k i q s hq hs => by
    have hi := at_lt hs
    have hi' := at_lt hq
    have ht := impl_tok (fu := fu) hf (hx3 s (at_mem hs)).1 (hx3 s (at_mem hs)).2
    have hid : M_impl_isSetID fu s.1 = some (inI s.1 0 999) := rfl
    rw [M_impl_IsValidSetIndex_L0, lt_t hi, cond_true]
    simp only [inR_t hi, inR_t hi', gtD_get hs, pred_i, gtD_get hq, pos_i, bd_eq, i64B_i i (by omega), Bool.or_true, ck_tt, i64B_c (show i + 1 ≤ 4294967296 by omega), succ_i, hid, cl_true, ht, setX]
    simp only [cl_if]
    cases inI s.1 0 999 <;> cases tokB s.2 <;> cases decide (s.1 ≤ q.1) <;> rfl) (fun k => by rw [M_impl_IsValidSetIndex_L0, lt_f]; rfl) (show x.2.2.length < fu by omega)
  have hth : M_impl_isThreshold fu x.1 = some (inI x.1 1 1000) := rfl
  rw [implTab_t hf hx1, cl_true, hth, h]
  simp only [cl_if, bd_eq, dec_len', cl_true]
  unfold idxB setsB
  cases tabB x.2.1 <;> cases inI x.1 1 1000 <;> cases decide (x.2.2.length ≤ 12) <;> cases adjAny setX (fun p s => setX s || decide (s.1 ≤ p.1)) x.2.2 <;> rfl
end Go.Proofs.Ytmgiijdejigdhaa

