/- Printed by genh.py: the laws' own helpers computed. No program in sight. No statement of the seat is proved here. -/
import Derived.Test.YtmgiijdejigdhaaEz
import Derived.Test.YtmgiijdejigdhaaPc
import Derived.Test.YtmgiijdejigdhaaBr
namespace Go.Proofs.Ytmgiijdejigdhaa
open Go.RowKit
set_option linter.unusedVariables false
set_option linter.unusedSimpArgs false

def w_TokenCount (x : (List UInt8) × (Int)) : Nat := x.1.length
def w_TokenCountS (x : List ((List UInt8) × (Int))) : Nat := wL w_TokenCount x
def w_StringS (x : List (List UInt8)) : Nat := wL (fun s : List UInt8 => s.length) x
def w_IndexedSet (x : (Int) × (List (List UInt8))) : Nat := w_StringS x.2
def w_IndexedSetS (x : List ((Int) × (List (List UInt8)))) : Nat := wL w_IndexedSet x
def w_SetIndex (x : (Int) × (List ((List UInt8) × (Int))) × (List ((Int) × (List (List UInt8))))) : Nat := w_TokenCountS x.2.1 + w_IndexedSetS x.2.2
theorem sz_TokenCount {fu : Nat} {x : (List UInt8) × (Int)} {n : Int} (hb : (qP qB qI) x) (h0 : 0 ≤ n) (h1 : n ≤ 1048576) (hf : 1048577 ≤ fu) : M_laws_szTokenCount fu x n = some (szR n (w_TokenCount x)) := by
  unfold M_laws_szTokenCount w_TokenCount
  have hl0 : x.1.length ≤ maxLen := hb.1
  unfold maxLen at hl0
  rw [ck_t (i64B_t (by omega) (by omega))]
  by_cases g0 : ¬ (x.1.length : Int) ≤ n
  · rw [decide_eq_true (by omega), cond_true]
    unfold szR
    rw [if_neg (by omega)]
  replace g0 := Classical.not_not.1 g0
  rw [decide_eq_false (by omega), cond_false]
  unfold szR
  rw [if_pos g0]
theorem sz_TokenCountS {fu : Nat} {x : List ((List UInt8) × (Int))} {n : Int} (hb : (qS (qP qB qI)) x) (h0 : 0 ≤ n) (h1 : n ≤ 1048576) (hf : 1048577 ≤ fu) : M_laws_szTokenCountS fu x n = some (szR n (w_TokenCountS x)) := by
  unfold M_laws_szTokenCountS w_TokenCountS
  refine sz_list h0 h1 hb.1 hf (L := M_laws_szTokenCountS_L0 fu x) (fun k y i z hl hz hy hy1 => ?_) (fun k y => by rw [M_laws_szTokenCountS_L0, lt_f]; rfl)
  have hi := at_lt hz
  have hq := hb.2 z (at_mem hz)
  rw [M_laws_szTokenCountS_L0, lt_t hi, cond_true, ck_t (inR_t hi), gtD_get hz, sz_TokenCount hq hy hy1 hf, cl_true]
  by_cases h : (w_TokenCount z : Int) ≤ y
  · rw [szR_lt h, cond_false, cond_false, ck_t (i64B_n (by omega)), succ_i]
  · rw [szR_ge h, cond_true, cond_true]
theorem sz_StringS {fu : Nat} {x : List (List UInt8)} {n : Int} (hb : (qS qB) x) (h0 : 0 ≤ n) (h1 : n ≤ 1048576) (hf : 1048577 ≤ fu) : M_laws_szStringS fu x n = some (szR n (w_StringS x)) := by
  unfold M_laws_szStringS w_StringS
  refine sz_list h0 h1 hb.1 hf (L := M_laws_szStringS_L0 fu x) (fun k y i z hl hz hy hy1 => ?_) (fun k y => by rw [M_laws_szStringS_L0, lt_f]; rfl)
  have hi := at_lt hz
  have hq := hb.2 z (at_mem hz)
  unfold qB maxLen at hq
  rw [M_laws_szStringS_L0, lt_t hi, cond_true, ck_t (inR_t hi), gtD_get hz, ck_t (i64B_t (by omega) (by omega))]
  by_cases h : (z.length : Int) ≤ y
  · rw [szR_lt h, szR_v h, decide_eq_false (by omega), cond_false, cond_false, ck_t (i64B_n (by omega)), succ_i]
  · rw [szR_ge h, decide_eq_true (by omega), cond_true, cond_true]
theorem sz_IndexedSet {fu : Nat} {x : (Int) × (List (List UInt8))} {n : Int} (hb : (qP qI (qS qB)) x) (h0 : 0 ≤ n) (h1 : n ≤ 1048576) (hf : 1048577 ≤ fu) : M_laws_szIndexedSet fu x n = some (szR n (w_IndexedSet x)) := by
  unfold M_laws_szIndexedSet w_IndexedSet
  rw [sz_StringS hb.2 (by omega) (by omega) hf, cl_true]
  by_cases g0 : ¬ (w_StringS x.2 : Int) ≤ n
  · rw [szR_ge g0, cond_true]
    unfold szR
    rw [if_neg (by omega)]
  replace g0 := Classical.not_not.1 g0
  rw [szR_lt g0, cond_false, szR_v g0]

theorem sz_IndexedSetS {fu : Nat} {x : List ((Int) × (List (List UInt8)))} {n : Int} (hb : (qS (qP qI (qS qB))) x) (h0 : 0 ≤ n) (h1 : n ≤ 1048576) (hf : 1048577 ≤ fu) : M_laws_szIndexedSetS fu x n = some (szR n (w_IndexedSetS x)) := by
  unfold M_laws_szIndexedSetS w_IndexedSetS
  refine sz_list h0 h1 hb.1 hf (L := M_laws_szIndexedSetS_L0 fu x) (fun k y i z hl hz hy hy1 => ?_) (fun k y => by rw [M_laws_szIndexedSetS_L0, lt_f]; rfl)
  have hi := at_lt hz
  have hq := hb.2 z (at_mem hz)
  rw [M_laws_szIndexedSetS_L0, lt_t hi, cond_true, ck_t (inR_t hi), gtD_get hz, sz_IndexedSet hq hy hy1 hf, cl_true]
  by_cases h : (w_IndexedSet z : Int) ≤ y
  · rw [szR_lt h, cond_false, cond_false, ck_t (i64B_n (by omega)), succ_i]
  · rw [szR_ge h, cond_true, cond_true]
theorem sz_SetIndex {fu : Nat} {x : (Int) × (List ((List UInt8) × (Int))) × (List ((Int) × (List (List UInt8))))} {n : Int} (hb : (qP qI (qP (qS (qP qB qI)) (qS (qP qI (qS qB))))) x) (h0 : 0 ≤ n) (h1 : n ≤ 1048576) (hf : 1048577 ≤ fu) : M_laws_szSetIndex fu x n = some (szR n (w_SetIndex x)) := by
  unfold M_laws_szSetIndex w_SetIndex
  rw [sz_TokenCountS hb.2.1 (by omega) (by omega) hf, cl_true]
  by_cases g0 : ¬ (w_TokenCountS x.2.1 : Int) ≤ n
  · rw [szR_ge g0, cond_true]
    unfold szR
    rw [if_neg (by omega)]
  replace g0 := Classical.not_not.1 g0
  rw [szR_lt g0, cond_false, szR_v g0]
  rw [sz_IndexedSetS hb.2.2 (by omega) (by omega) hf, cl_true]
  by_cases g1 : ¬ (w_IndexedSetS x.2.2 : Int) ≤ n - (w_TokenCountS x.2.1 : Nat)
  · rw [szR_ge g1, cond_true]
    unfold szR
    rw [if_neg (by omega)]
  replace g1 := Classical.not_not.1 g1
  rw [szR_lt g1, cond_false, szR_v g1]
  unfold szR
  rw [if_pos (by omega)]
  congr 1
  omega
theorem to_TokenCount {fu : Nat} {x : (List UInt8) × (Int)} (hw : w_TokenCount x ≤ 1048576) (hf : 1048577 ≤ fu) : M_laws_toTokenCount fu x = some x := by
  unfold w_TokenCount at hw
  unfold M_laws_toTokenCount
  rfl
theorem to_TokenCountS {fu : Nat} {x : List ((List UInt8) × (Int))} (hw : w_TokenCountS x ≤ 1048576) (hf : 1048577 ≤ fu) : M_laws_toTokenCountS fu x = some x := by
  have hw' := hw
  unfold w_TokenCountS wL at hw'
  unfold M_laws_toTokenCountS
  refine to_list (by omega) hf (L := M_laws_toTokenCountS_L0 fu x) (fun k i ys z hi hl hz => ?_) (fun k ys => by rw [M_laws_toTokenCountS_L0, lt_f]; rfl)
  have hm := sz_mem (f := w_TokenCount) (at_mem hz)
  rw [M_laws_toTokenCountS_L0, lt_t hi, cond_true, ck_t (inR_t hi), gtD_get hz, to_TokenCount (by omega) hf, cl_true, ck_t (inR_t (by omega)), ck_t (i64B_n (by omega)), set_nat, succ_i]
theorem to_StringS {fu : Nat} {x : List (List UInt8)} (hw : w_StringS x ≤ 1048576) (hf : 1048577 ≤ fu) : M_laws_toStringS fu x = some x := by
  have hw' := hw
  unfold w_StringS wL at hw'
  unfold M_laws_toStringS
  refine to_list (by omega) hf (L := M_laws_toStringS_L0 fu x) (fun k i ys z hi hl hz => ?_) (fun k ys => by rw [M_laws_toStringS_L0, lt_f]; rfl)
  rw [M_laws_toStringS_L0, lt_t hi, cond_true, ck_t (inR_t hi), ck_t (inR_t (by omega)), ck_t (i64B_n (by omega)), gtD_get hz, set_nat, succ_i]
theorem to_IndexedSet {fu : Nat} {x : (Int) × (List (List UInt8))} (hw : w_IndexedSet x ≤ 1048576) (hf : 1048577 ≤ fu) : M_laws_toIndexedSet fu x = some x := by
  unfold w_IndexedSet at hw
  unfold M_laws_toIndexedSet
  rw [to_StringS (by omega) hf, cl_true]
theorem to_IndexedSetS {fu : Nat} {x : List ((Int) × (List (List UInt8)))} (hw : w_IndexedSetS x ≤ 1048576) (hf : 1048577 ≤ fu) : M_laws_toIndexedSetS fu x = some x := by
  have hw' := hw
  unfold w_IndexedSetS wL at hw'
  unfold M_laws_toIndexedSetS
  refine to_list (by omega) hf (L := M_laws_toIndexedSetS_L0 fu x) (fun k i ys z hi hl hz => ?_) (fun k ys => by rw [M_laws_toIndexedSetS_L0, lt_f]; rfl)
  have hm := sz_mem (f := w_IndexedSet) (at_mem hz)
  rw [M_laws_toIndexedSetS_L0, lt_t hi, cond_true, ck_t (inR_t hi), gtD_get hz, to_IndexedSet (by omega) hf, cl_true, ck_t (inR_t (by omega)), ck_t (i64B_n (by omega)), set_nat, succ_i]
theorem to_SetIndex {fu : Nat} {x : (Int) × (List ((List UInt8) × (Int))) × (List ((Int) × (List (List UInt8))))} (hw : w_SetIndex x ≤ 1048576) (hf : 1048577 ≤ fu) : M_laws_toSetIndex fu x = some x := by
  unfold w_SetIndex at hw
  unfold M_laws_toSetIndex
  rw [to_TokenCountS (by omega) hf, cl_true, to_IndexedSetS (by omega) hf, cl_true]
theorem eq_TokenCount {fu : Nat} {x y : (List UInt8) × (Int)} (hw : w_TokenCount x ≤ 1100000) (hf : 1100001 ≤ fu) : M_laws_eqTokenCount fu x y = some (x == y) := by
  obtain ⟨x0, x1⟩ := x
  obtain ⟨y0, y1⟩ := y
  unfold w_TokenCount at hw
  try simp only [] at hw
  unfold M_laws_eqTokenCount
  rw [show (((x0, x1) : (List UInt8) × (Int)) == (y0, y1)) = ((x0 == y0) && (x1 == y1)) from rfl]
  simp only []
  try simp only [bne]
  cases h0 : (x0 == y0) <;> cases h1 : (x1 == y1) <;> rfl
theorem eq_TokenCountS {fu : Nat} {x y : List ((List UInt8) × (Int))} (hw : w_TokenCountS x ≤ 1100000) (hf : 1100001 ≤ fu) : M_laws_eqTokenCountS fu x y = some (x == y) := by
  have hw' := hw
  unfold w_TokenCountS wL at hw'
  unfold M_laws_eqTokenCountS
  refine eq_list (by omega) (L := M_laws_eqTokenCountS_L0 fu x y) (fun k i z z' hl hz hz' => ?_) (fun k => by rw [M_laws_eqTokenCountS_L0, lt_f]; rfl)
  have hi := at_lt hz
  have hm := sz_mem (f := w_TokenCount) (at_mem hz)
  rw [M_laws_eqTokenCountS_L0, lt_t hi, cond_true, ck_t (inR_t hi), ck_t (inR_t (at_lt hz')), ck_t (i64B_n (by omega)), gtD_get hz, gtD_get hz', eq_TokenCount (by omega) hf, cl_true, succ_i]
theorem eq_StringS {fu : Nat} {x y : List (List UInt8)} (hw : w_StringS x ≤ 1100000) (hf : 1100001 ≤ fu) : M_laws_eqStringS fu x y = some (x == y) := by
  have hw' := hw
  unfold w_StringS wL at hw'
  unfold M_laws_eqStringS
  refine eq_list (by omega) (L := M_laws_eqStringS_L0 fu x y) (fun k i z z' hl hz hz' => ?_) (fun k => by rw [M_laws_eqStringS_L0, lt_f]; rfl)
  have hi := at_lt hz
  rw [M_laws_eqStringS_L0, lt_t hi, cond_true, ck_t (inR_t hi), ck_t (inR_t (at_lt hz')), ck_t (i64B_n (by omega)), gtD_get hz, gtD_get hz', succ_i]
theorem eq_IndexedSet {fu : Nat} {x y : (Int) × (List (List UInt8))} (hw : w_IndexedSet x ≤ 1100000) (hf : 1100001 ≤ fu) : M_laws_eqIndexedSet fu x y = some (x == y) := by
  obtain ⟨x0, x1⟩ := x
  obtain ⟨y0, y1⟩ := y
  unfold w_IndexedSet at hw
  try simp only [] at hw
  unfold M_laws_eqIndexedSet
  rw [show (((x0, x1) : (Int) × (List (List UInt8))) == (y0, y1)) = ((x0 == y0) && (x1 == y1)) from rfl]
  simp only []
  rw [eq_StringS (by omega) hf, cl_true]
  try simp only [bne]
  cases h0 : (x0 == y0) <;> cases h1 : (x1 == y1) <;> rfl
theorem eq_IndexedSetS {fu : Nat} {x y : List ((Int) × (List (List UInt8)))} (hw : w_IndexedSetS x ≤ 1100000) (hf : 1100001 ≤ fu) : M_laws_eqIndexedSetS fu x y = some (x == y) := by
  have hw' := hw
  unfold w_IndexedSetS wL at hw'
  unfold M_laws_eqIndexedSetS
  refine eq_list (by omega) (L := M_laws_eqIndexedSetS_L0 fu x y) (fun k i z z' hl hz hz' => ?_) (fun k => by rw [M_laws_eqIndexedSetS_L0, lt_f]; rfl)
  have hi := at_lt hz
  have hm := sz_mem (f := w_IndexedSet) (at_mem hz)
  rw [M_laws_eqIndexedSetS_L0, lt_t hi, cond_true, ck_t (inR_t hi), ck_t (inR_t (at_lt hz')), ck_t (i64B_n (by omega)), gtD_get hz, gtD_get hz', eq_IndexedSet (by omega) hf, cl_true, succ_i]
theorem eq_SetIndex {fu : Nat} {x y : (Int) × (List ((List UInt8) × (Int))) × (List ((Int) × (List (List UInt8))))} (hw : w_SetIndex x ≤ 1100000) (hf : 1100001 ≤ fu) : M_laws_eqSetIndex fu x y = some (x == y) := by
  obtain ⟨x0, x1, x2⟩ := x
  obtain ⟨y0, y1, y2⟩ := y
  unfold w_SetIndex at hw
  try simp only [] at hw
  unfold M_laws_eqSetIndex
  rw [show (((x0, x1, x2) : (Int) × (List ((List UInt8) × (Int))) × (List ((Int) × (List (List UInt8))))) == (y0, y1, y2)) = ((x0 == y0) && ((x1 == y1) && (x2 == y2))) from rfl]
  simp only []
  rw [eq_TokenCountS (by omega) hf, cl_true, eq_IndexedSetS (by omega) hf, cl_true]
  try simp only [bne]
  cases h0 : (x0 == y0) <;> cases h1 : (x1 == y1) <;> cases h2 : (x2 == y2) <;> rfl
def mt (k : Int) : List UInt8 := gv (M_laws_markText 64 k)
theorem markText_loop {fu fu' : Nat} : ∀ (d : Nat) (y : Int) (s : List UInt8) (k : Nat), 0 ≤ y → y ≤ 4294967296 → y < 10 ^ d → d < k → s.length + d ≤ 1000 → ∃ r, r.length ≤ s.length + d ∧ M_laws_markText_L0 fu k y s = some r ∧ M_laws_markText_L0 fu' (d + 1) y s = some r
  | 0, y, s, k, h0, hM, h1, hk, hl => by
    obtain ⟨k, rfl⟩ : ∃ q, k = q + 1 := ⟨k - 1, by omega⟩
    obtain rfl : y = 0 := by omega
    exact ⟨s, by omega, rfl, rfl⟩
  | d + 1, y, s, k, h0, hM, h1, hk, hl => by
    obtain ⟨k, rfl⟩ : ∃ q, k = q + 1 := ⟨k - 1, by omega⟩
    rw [M_laws_markText_L0, M_laws_markText_L0]
    by_cases hy : 0 < y
    · have e1 : y.tmod 10 = y % 10 := Int.tmod_eq_emod_of_nonneg h0
      have e2 : y.tdiv 10 = y / 10 := Int.tdiv_eq_ediv_of_nonneg h0
      have hp : (10 : Int) ^ (d + 1) = 10 ^ d * 10 := Int.pow_succ ..
      have hm : 0 ≤ y % 10 ∧ y % 10 < 10 := ⟨Int.emod_nonneg _ (by omega), Int.emod_lt_of_pos _ (by omega)⟩
      have hlen : ((strB [IntKind.u8.wrap (48 + y.tmod 10)]) ++ s).length = s.length + 1 := by simp [strB]
      have hy2 : i64B (y.tdiv 10) = true := by
        rw [e2]
        exact i64B_t (by have := Int.ediv_nonneg h0 (show (0 : Int) ≤ 10 by omega); omega) (by have := Int.ediv_le_self 10 h0; omega)
      rw [decide_eq_true hy, cond_true, cond_true, ck_t (by decide), ck_t (i64B_t (by omega) (by omega)), ck_t (lenOK_t (by rw [hlen]; omega)), ck_t (by decide), ck_t hy2, ck_t (by decide), ck_t (i64B_t (by omega) (by omega)), ck_t (lenOK_t (by rw [hlen]; omega)), ck_t (by decide), ck_t hy2]
      obtain ⟨r, h2, h3, h4⟩ := markText_loop (fu := fu) (fu' := fu') d (y.tdiv 10) ((strB [IntKind.u8.wrap (48 + y.tmod 10)]) ++ s) k (by rw [e2]; exact Int.ediv_nonneg h0 (by omega)) (by rw [e2]; have := Int.ediv_le_self 10 h0; omega) (by rw [e2]; exact Int.ediv_lt_of_lt_mul (by omega) (by omega)) (by omega) (by rw [hlen]; omega)
      exact ⟨r, by rw [hlen] at h2; omega, h3, h4⟩
    · obtain rfl : y = 0 := by omega
      exact ⟨s, by omega, rfl, rfl⟩
theorem markText_t {fu : Nat} {k : Int} (h0 : 0 < k) (h1 : k ≤ 4294967296) (hf : 1100001 ≤ fu) : M_laws_markText fu k = some (mt k) := by
  obtain ⟨r, h2, h3, h4⟩ := markText_loop (fu := fu) (fu' := 64) 12 k [] fu (by omega) h1 (by omega) (by omega) (by decide)
  obtain ⟨r', _, h3', h4'⟩ := markText_loop (fu := 64) (fu' := 64) 12 k [] 64 (by omega) h1 (by omega) (by omega) (by decide)
  have e : r = r' := by rw [h4] at h4'; injection h4'
  subst e
  unfold mt M_laws_markText
  rw [decide_eq_false (by omega), cond_false, cond_false, h3, h3', cl_true, ck_t (lenOK_t (by simp at h2 ⊢; omega))]
  rfl

def fe_TokenCountS (x : (List UInt8) × (Int)) (k : Int) : (List UInt8) × (Int) := (mt (k), k + 1)
def ce_TokenCountS (x : (List UInt8) × (Int)) : Int := 1 + 1
theorem ce0_TokenCountS (x : (List UInt8) × (Int)) : 0 ≤ ce_TokenCountS x := by
  unfold ce_TokenCountS
  omega
def f_TokenCountS (x : List ((List UInt8) × (Int))) (k : Int) : List ((List UInt8) × (Int)) := mkW fe_TokenCountS ce_TokenCountS x k
def c_TokenCountS (x : List ((List UInt8) × (Int))) : Int := cW ce_TokenCountS x
theorem c0_TokenCountS (x : List ((List UInt8) × (Int))) : 0 ≤ c_TokenCountS x := cW_nonneg ce0_TokenCountS x
theorem cw_TokenCountS (x : List ((List UInt8) × (Int))) : c_TokenCountS x ≤ 8 * (w_TokenCountS x : Int) := by
  unfold c_TokenCountS w_TokenCountS
  refine cw_list (fun x => ?_) x
  unfold ce_TokenCountS w_TokenCount
  omega
def fe_StringS (x : List UInt8) (k : Int) : List UInt8 := mt k
def ce_StringS (x : List UInt8) : Int := 1
theorem ce0_StringS (x : List UInt8) : 0 ≤ ce_StringS x := by
  unfold ce_StringS
  omega
def f_StringS (x : List (List UInt8)) (k : Int) : List (List UInt8) := mkW fe_StringS ce_StringS x k
def c_StringS (x : List (List UInt8)) : Int := cW ce_StringS x
theorem c0_StringS (x : List (List UInt8)) : 0 ≤ c_StringS x := cW_nonneg ce0_StringS x
theorem cw_StringS (x : List (List UInt8)) : c_StringS x ≤ 8 * (w_StringS x : Int) := by
  unfold c_StringS w_StringS
  refine cw_list (fun x => ?_) x
  unfold ce_StringS
  omega
def fe_IndexedSetS (x : (Int) × (List (List UInt8))) (k : Int) : (Int) × (List (List UInt8)) := (k, f_StringS x.2 (k + 1))
def ce_IndexedSetS (x : (Int) × (List (List UInt8))) : Int := 1 + c_StringS x.2
theorem ce0_IndexedSetS (x : (Int) × (List (List UInt8))) : 0 ≤ ce_IndexedSetS x := by
  unfold ce_IndexedSetS
  have := c0_StringS (x.2)
  omega
def f_IndexedSetS (x : List ((Int) × (List (List UInt8)))) (k : Int) : List ((Int) × (List (List UInt8))) := mkW fe_IndexedSetS ce_IndexedSetS x k
def c_IndexedSetS (x : List ((Int) × (List (List UInt8)))) : Int := cW ce_IndexedSetS x
theorem c0_IndexedSetS (x : List ((Int) × (List (List UInt8)))) : 0 ≤ c_IndexedSetS x := cW_nonneg ce0_IndexedSetS x
theorem cw_IndexedSetS (x : List ((Int) × (List (List UInt8)))) : c_IndexedSetS x ≤ 8 * (w_IndexedSetS x : Int) := by
  unfold c_IndexedSetS w_IndexedSetS
  refine cw_list (fun x => ?_) x
  unfold ce_IndexedSetS w_IndexedSet
  have := cw_StringS (x.2)
  omega
def f_SetIndex (x : (Int) × (List ((List UInt8) × (Int))) × (List ((Int) × (List (List UInt8))))) (k : Int) : (Int) × (List ((List UInt8) × (Int))) × (List ((Int) × (List (List UInt8)))) := (x.1, f_TokenCountS x.2.1 (k), f_IndexedSetS x.2.2 (k + c_TokenCountS x.2.1))
def c_SetIndex (x : (Int) × (List ((List UInt8) × (Int))) × (List ((Int) × (List (List UInt8))))) : Int := c_TokenCountS x.2.1 + c_IndexedSetS x.2.2
theorem cw_SetIndex (x : (Int) × (List ((List UInt8) × (Int))) × (List ((Int) × (List (List UInt8))))) : c_SetIndex x ≤ 8 * (w_SetIndex x : Int) := by
  unfold c_SetIndex w_SetIndex
  have := cw_TokenCountS (x.2.1)
  have := cw_IndexedSetS (x.2.2)
  omega
theorem c0_SetIndex (x : (Int) × (List ((List UInt8) × (Int))) × (List ((Int) × (List (List UInt8))))) : 0 ≤ c_SetIndex x := by
  unfold c_SetIndex
  have := c0_TokenCountS (x.2.1)
  have := c0_IndexedSetS (x.2.2)
  omega
theorem mark_TokenCountS {fu : Nat} {x : List ((List UInt8) × (Int))} {k : Int} (hw : w_TokenCountS x ≤ 1100000) (hk : 0 < k) (h1 : k + c_TokenCountS x ≤ 4294967296) (hf : 1100001 ≤ fu) : M_laws_markTokenCountS fu x k = some (k + c_TokenCountS x, f_TokenCountS x k) := by
  have hw' := hw
  unfold w_TokenCountS wL at hw'
  unfold M_laws_markTokenCountS
  have hb : ∀ z ∈ x, w_TokenCount z ≤ 1100000 := fun z hz => Nat.le_trans (sz_mem (f := w_TokenCount) hz) (by omega)
  refine mark_list (f := fe_TokenCountS) (c := ce_TokenCountS) (Bd := (fun z : (List UInt8) × (Int) => w_TokenCount z ≤ 1100000)) (lim := 4294967296) (L := M_laws_markTokenCountS_L0 fu) ce0_TokenCountS (by omega) hk h1 hb (fun k y i ys z hi hl hz hy hyl hbz => ?_) (fun k y ys hl => by rw [M_laws_markTokenCountS_L0, hl, lt_f]; rfl)
  have hil : i < ys.length := by omega
  unfold ce_TokenCountS at hyl
  rw [M_laws_markTokenCountS_L0, lt_t hil, cond_true]
  have m0 := markText_t (k := y) (by omega) (by omega) hf
  have b0 : i64B (y + 1) = true := i64B_t (by omega) (by omega)
  have b1 : i64B (y + 1 + 1) = true := i64B_t (by omega) (by omega)
  have b : i64B ((i : Int) + 1) = true := i64B_n (by omega)
  have b' : i64B ((i + 1 : Nat) : Int) = true := b
  simp only [List.length_set, set_nat, List.set_set, inR_t hil, ck_tt, cl_true, succ_i, gtD_set hil, gtD_get hz, m0, b0, b1, b, b', cond_true, cond_false, Bool.not_true, beq_self_eq_true, bne_self_eq_false']
  try simp only [fe_TokenCountS, ce_TokenCountS, Int.add_assoc]
  try rfl
theorem mark_StringS {fu : Nat} {x : List (List UInt8)} {k : Int} (hw : w_StringS x ≤ 1100000) (hk : 0 < k) (h1 : k + c_StringS x ≤ 4294967296) (hf : 1100001 ≤ fu) : M_laws_markStringS fu x k = some (k + c_StringS x, f_StringS x k) := by
  have hw' := hw
  unfold w_StringS wL at hw'
  unfold M_laws_markStringS
  have hb : ∀ z ∈ x, (fun s : List UInt8 => s.length) z ≤ 1100000 := fun z hz => Nat.le_trans (sz_mem (f := (fun s : List UInt8 => s.length)) hz) (by omega)
  refine mark_list (f := fe_StringS) (c := ce_StringS) (Bd := (fun z : List UInt8 => (fun s : List UInt8 => s.length) z ≤ 1100000)) (lim := 4294967296) (L := M_laws_markStringS_L0 fu) ce0_StringS (by omega) hk h1 hb (fun k y i ys z hi hl hz hy hyl hbz => ?_) (fun k y ys hl => by rw [M_laws_markStringS_L0, hl, lt_f]; rfl)
  have hil : i < ys.length := by omega
  unfold ce_StringS at hyl
  rw [M_laws_markStringS_L0, lt_t hil, cond_true, markText_t hy (by omega) hf, cl_true, ck_t (inR_t hil), ck_t (i64B_t (by omega) (by omega)), ck_t (i64B_n (by omega)), set_nat, succ_i]
  rfl
theorem mark_IndexedSetS {fu : Nat} {x : List ((Int) × (List (List UInt8)))} {k : Int} (hw : w_IndexedSetS x ≤ 1100000) (hk : 0 < k) (h1 : k + c_IndexedSetS x ≤ 4294967296) (hf : 1100001 ≤ fu) : M_laws_markIndexedSetS fu x k = some (k + c_IndexedSetS x, f_IndexedSetS x k) := by
  have hw' := hw
  unfold w_IndexedSetS wL at hw'
  unfold M_laws_markIndexedSetS
  have hb : ∀ z ∈ x, w_IndexedSet z ≤ 1100000 := fun z hz => Nat.le_trans (sz_mem (f := w_IndexedSet) hz) (by omega)
  refine mark_list (f := fe_IndexedSetS) (c := ce_IndexedSetS) (Bd := (fun z : (Int) × (List (List UInt8)) => w_IndexedSet z ≤ 1100000)) (lim := 4294967296) (L := M_laws_markIndexedSetS_L0 fu) ce0_IndexedSetS (by omega) hk h1 hb (fun k y i ys z hi hl hz hy hyl hbz => ?_) (fun k y ys hl => by rw [M_laws_markIndexedSetS_L0, hl, lt_f]; rfl)
  have hil : i < ys.length := by omega
  unfold ce_IndexedSetS at hyl
  have hc1 := c0_StringS (z.2)
  have hbz' : w_IndexedSet z ≤ 1100000 := hbz
  unfold w_IndexedSet at hbz'
  rw [M_laws_markIndexedSetS_L0, lt_t hil, cond_true]
  have b0 : i64B (y + 1) = true := i64B_t (by omega) (by omega)
  have m1 := mark_StringS (x := z.2) (k := y + 1) (by omega) (by omega) (by omega) hf
  have b : i64B ((i : Int) + 1) = true := i64B_n (by omega)
  have b' : i64B ((i + 1 : Nat) : Int) = true := b
  simp only [List.length_set, set_nat, List.set_set, inR_t hil, ck_tt, cl_true, succ_i, gtD_set hil, gtD_get hz, b0, m1, b, b', cond_true, cond_false, Bool.not_true, beq_self_eq_true, bne_self_eq_false']
  try simp only [fe_IndexedSetS, ce_IndexedSetS, Int.add_assoc]
  try rfl
theorem mark_SetIndex {fu : Nat} {x : (Int) × (List ((List UInt8) × (Int))) × (List ((Int) × (List (List UInt8))))} {k : Int} (hw : w_SetIndex x ≤ 1100000) (hk : 0 < k) (h1 : k + c_SetIndex x ≤ 4294967296) (hf : 1100001 ≤ fu) : M_laws_markSetIndex fu x k = some (k + c_SetIndex x, f_SetIndex x k) := by
  unfold w_SetIndex at hw
  unfold c_SetIndex at h1 ⊢
  unfold M_laws_markSetIndex
  have c1 := c0_TokenCountS (x.2.1)
  have c2 := c0_IndexedSetS (x.2.2)
  rw [mark_TokenCountS (by omega) (by omega) (by omega) hf, cl_true]
  simp only []
  rw [mark_IndexedSetS (by omega) (by omega) (by omega) hf, cl_true]
  unfold f_SetIndex
  simp only [Int.add_assoc]
theorem held_TokenCountS {fu : Nat} {x z : List ((List UInt8) × (Int))} {k : Int} (hz : z = f_TokenCountS x k) (hw : w_TokenCountS x ≤ 1100000) (hk : 0 < k) (h1 : k + c_TokenCountS x ≤ 4294967296) (hf : 1100001 ≤ fu) : M_laws_heldTokenCountS fu z k = some (k + c_TokenCountS x) := by
  have hw' := hw
  unfold w_TokenCountS wL at hw'
  unfold M_laws_heldTokenCountS
  have hb : ∀ z ∈ x, w_TokenCount z ≤ 1100000 := fun z hz => Nat.le_trans (sz_mem (f := w_TokenCount) hz) (by omega)
  have hzl : z.length = x.length := by rw [hz]; exact mkW_length
  refine held_list (f := fe_TokenCountS) (c := ce_TokenCountS) (Bd := (fun z : (List UInt8) × (Int) => w_TokenCount z ≤ 1100000)) (lim := 4294967296) (L := M_laws_heldTokenCountS_L0 fu z) hz ce0_TokenCountS (by omega) hk h1 hb (fun k y i u hu hy hyl hbz => ?_) (fun k y => by rw [M_laws_heldTokenCountS_L0, lt_f]; rfl)
  have hi := at_lt hu
  unfold ce_TokenCountS at hyl
  rw [M_laws_heldTokenCountS_L0, lt_t hi, cond_true]
  have m0 := markText_t (k := y) (by omega) (by omega) hf
  have b0 : i64B (y + 1) = true := i64B_t (by omega) (by omega)
  have b1 : i64B (y + 1 + 1) = true := i64B_t (by omega) (by omega)
  have b : i64B ((i : Int) + 1) = true := i64B_n (by omega)
  have b' : i64B ((i + 1 : Nat) : Int) = true := b
  simp only [inR_t hi, ck_tt, cl_true, succ_i, gtD_get hu, fe_TokenCountS, m0, b0, b1, b, b', cond_true, cond_false, Bool.not_true, beq_self_eq_true, bne_self_eq_false']
  try simp only [fe_TokenCountS, ce_TokenCountS, Int.add_assoc]
  try rfl
theorem held_StringS {fu : Nat} {x z : List (List UInt8)} {k : Int} (hz : z = f_StringS x k) (hw : w_StringS x ≤ 1100000) (hk : 0 < k) (h1 : k + c_StringS x ≤ 4294967296) (hf : 1100001 ≤ fu) : M_laws_heldStringS fu z k = some (k + c_StringS x) := by
  have hw' := hw
  unfold w_StringS wL at hw'
  unfold M_laws_heldStringS
  have hb : ∀ z ∈ x, (fun s : List UInt8 => s.length) z ≤ 1100000 := fun z hz => Nat.le_trans (sz_mem (f := (fun s : List UInt8 => s.length)) hz) (by omega)
  have hzl : z.length = x.length := by rw [hz]; exact mkW_length
  refine held_list (f := fe_StringS) (c := ce_StringS) (Bd := (fun z : List UInt8 => (fun s : List UInt8 => s.length) z ≤ 1100000)) (lim := 4294967296) (L := M_laws_heldStringS_L0 fu z) hz ce0_StringS (by omega) hk h1 hb (fun k y i u hu hy hyl hbz => ?_) (fun k y => by rw [M_laws_heldStringS_L0, lt_f]; rfl)
  have hi := at_lt hu
  unfold ce_StringS at hyl
  rw [M_laws_heldStringS_L0, lt_t hi, cond_true, ck_t (inR_t hi), markText_t hy (by omega) hf, cl_true, gtD_get hu, show (fe_StringS u y == mt y) = true from beq_self_eq_true _, Bool.not_true, cond_false, ck_t (i64B_t (by omega) (by omega)), ck_t (i64B_n (by omega)), succ_i]
  rfl
theorem held_IndexedSetS {fu : Nat} {x z : List ((Int) × (List (List UInt8)))} {k : Int} (hz : z = f_IndexedSetS x k) (hw : w_IndexedSetS x ≤ 1100000) (hk : 0 < k) (h1 : k + c_IndexedSetS x ≤ 4294967296) (hf : 1100001 ≤ fu) : M_laws_heldIndexedSetS fu z k = some (k + c_IndexedSetS x) := by
  have hw' := hw
  unfold w_IndexedSetS wL at hw'
  unfold M_laws_heldIndexedSetS
  have hb : ∀ z ∈ x, w_IndexedSet z ≤ 1100000 := fun z hz => Nat.le_trans (sz_mem (f := w_IndexedSet) hz) (by omega)
  have hzl : z.length = x.length := by rw [hz]; exact mkW_length
  refine held_list (f := fe_IndexedSetS) (c := ce_IndexedSetS) (Bd := (fun z : (Int) × (List (List UInt8)) => w_IndexedSet z ≤ 1100000)) (lim := 4294967296) (L := M_laws_heldIndexedSetS_L0 fu z) hz ce0_IndexedSetS (by omega) hk h1 hb (fun k y i u hu hy hyl hbz => ?_) (fun k y => by rw [M_laws_heldIndexedSetS_L0, lt_f]; rfl)
  have hi := at_lt hu
  unfold ce_IndexedSetS at hyl
  have hc1 := c0_StringS (u.2)
  have hbz' : w_IndexedSet u ≤ 1100000 := hbz
  unfold w_IndexedSet at hbz'
  rw [M_laws_heldIndexedSetS_L0, lt_t hi, cond_true]
  have b0 : i64B (y + 1) = true := i64B_t (by omega) (by omega)
  have m1 := held_StringS (x := u.2) (z := f_StringS u.2 (y + 1)) (k := y + 1) rfl (by omega) (by omega) (by omega) hf
  have d1 : decide (y + 1 + c_StringS u.2 < 0) = false := decide_eq_false (by omega)
  have b : i64B ((i : Int) + 1) = true := i64B_n (by omega)
  have b' : i64B ((i + 1 : Nat) : Int) = true := b
  simp only [inR_t hi, ck_tt, cl_true, succ_i, gtD_get hu, fe_IndexedSetS, b0, d1, m1, b, b', cond_true, cond_false, Bool.not_true, beq_self_eq_true, bne_self_eq_false']
  try simp only [fe_IndexedSetS, ce_IndexedSetS, Int.add_assoc]
  try rfl
theorem held_SetIndex {fu : Nat} {x z : (Int) × (List ((List UInt8) × (Int))) × (List ((Int) × (List (List UInt8))))} {k : Int} (hz : z = f_SetIndex x k) (hw : w_SetIndex x ≤ 1100000) (hk : 0 < k) (h1 : k + c_SetIndex x ≤ 4294967296) (hf : 1100001 ≤ fu) : M_laws_heldSetIndex fu z k = some (k + c_SetIndex x) := by
  unfold w_SetIndex at hw
  unfold c_SetIndex at h1 ⊢
  unfold M_laws_heldSetIndex
  have c1 := c0_TokenCountS (x.2.1)
  have c2 := c0_IndexedSetS (x.2.2)
  rw [held_TokenCountS (x := x.2.1) (z := z.2.1) (by rw [hz]; rfl) (by omega) (by omega) (by omega) hf, cl_true, decide_eq_false (by omega), cond_false]
  rw [held_IndexedSetS (x := x.2.2) (z := z.2.2) (by rw [hz]; rfl) (by omega) (by omega) (by omega) hf, cl_true, decide_eq_false (by omega), cond_false]
  simp only [Int.add_assoc]
theorem law_InsertSet {fu : Nat} {a0 : (Int) × (List ((List UInt8) × (Int))) × (List ((Int) × (List (List UInt8))))} {a1 : Int} {a2 : List (List UInt8)} (hf : 1100001 ≤ fu) (h0 : (qP qI (qP (qS (qP qB qI)) (qS (qP qI (qS qB))))) a0) (h1 : qI a1) (h2 : (qS qB) a2)
    (hs : w_SetIndex a0 + w_StringS a2 ≤ 1048576 → ∃ r : ((Int) × (List ((List UInt8) × (Int))) × (List ((Int) × (List (List UInt8))))) × (Bool), M_spec_InsertSet fu a0 a1 a2 = some r ∧ M_impl_InsertSet fu a0 a1 a2 = some r ∧ w_SetIndex r.1 ≤ 1100000) : M_laws_FnExactInsertSet fu a0 a1 a2 = some true := by
  unfold M_laws_FnExactInsertSet
  rw [sz_SetIndex h0 (by omega) (by omega) (by omega), cl_true]
  by_cases g0 : ¬ (w_SetIndex a0 : Int) ≤ 1048576
  · rw [szR_ge g0, cond_true]
  replace g0 := Classical.not_not.1 g0
  rw [szR_lt g0, cond_false, szR_v g0]
  rw [sz_StringS h2 (by omega) (by omega) (by omega), cl_true]
  by_cases g2 : ¬ (w_StringS a2 : Int) ≤ 1048576 - (w_SetIndex a0 : Nat)
  · rw [szR_ge g2, cond_true]
  replace g2 := Classical.not_not.1 g2
  rw [szR_lt g2, cond_false]
  obtain ⟨r, e1, e2, v0⟩ := hs (by omega)
  have t0 : M_laws_toSetIndex fu a0 = some a0 := to_SetIndex (by omega) (by omega)
  have q0 : M_laws_eqSetIndex fu a0 a0 = some (a0 == a0) := eq_SetIndex (by omega) hf
  have t2 : M_laws_toStringS fu a2 = some a2 := to_StringS (by omega) (by omega)
  have q2 : M_laws_eqStringS fu a2 a2 = some (a2 == a2) := eq_StringS (by omega) hf
  have p0 : M_laws_eqSetIndex fu r.1 r.1 = some (r.1 == r.1) := eq_SetIndex (by omega) hf
  have c0 := c0_SetIndex a0
  have d0 := cw_SetIndex a0
  have c2 := c0_StringS a2
  have d2 := cw_StringS a2
  have m0 : M_laws_markSetIndex fu a0 (1) = some (1 + c_SetIndex a0, f_SetIndex a0 (1)) := mark_SetIndex (by omega) (by omega) (by omega) hf
  have m2 : M_laws_markStringS fu a2 (1 + c_SetIndex a0) = some (1 + c_SetIndex a0 + c_StringS a2, f_StringS a2 (1 + c_SetIndex a0)) := mark_StringS (by omega) (by omega) (by omega) hf
  have k0 : decide (1 + c_SetIndex a0 + c_StringS a2 < 0) = false := decide_eq_false (by omega)
  have cr0 := c0_SetIndex r.1
  have dr0 := cw_SetIndex r.1
  have mr0 : M_laws_markSetIndex fu r.1 (1) = some (1 + c_SetIndex r.1, f_SetIndex r.1 (1)) := mark_SetIndex (by omega) (by omega) (by omega) hf
  have hr0 : M_laws_heldSetIndex fu (f_SetIndex r.1 (1)) (1) = some (1 + c_SetIndex r.1) := held_SetIndex rfl (by omega) (by omega) (by omega) hf
  have kr0 : decide (1 + c_SetIndex r.1 < 0) = false := decide_eq_false (by omega)
  simp only [e1, e2, cl_true, bd_eq, beq_self_eq_true, bne_self_eq_false', Bool.not_true, Bool.not_false, cond_false, cond_true, Bool.true_and, Bool.and_true, Bool.false_or, Bool.or_false, Bool.true_or, Bool.false_and, t0, q0, t2, q2, p0, m0, m2, k0, mr0, hr0, kr0, show (false == false) = true from rfl, show (true == false) = false from rfl, show (false == true) = false from rfl]
end Go.Proofs.Ytmgiijdejigdhaa
