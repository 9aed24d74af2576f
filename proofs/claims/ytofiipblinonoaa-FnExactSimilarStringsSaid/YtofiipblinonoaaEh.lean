/- Printed by genh.py: the laws' own helpers computed. No program in sight. No statement of the seat is proved here. -/
import Derived.Test.YtofiipblinonoaaEz
import Derived.Test.YtofiipblinonoaaPc
import Derived.Test.YtofiipblinonoaaBr
namespace Go.Proofs.Ytofiipblinonoaa
open Go.RowKit
set_option linter.unusedVariables false
set_option linter.unusedSimpArgs false

def w_StringS (x : List (List UInt8)) : Nat := wL (fun s : List UInt8 => s.length) x
theorem sz_StringS {fu : Nat} {x : List (List UInt8)} {n : Int} (hb : (qS qB) x) (h0 : 0 ≤ n) (h1 : n ≤ 1048576) (hf : 1048577 ≤ fu) : M_laws_szStringS fu x n = some (szR n (w_StringS x)) := by
  unfold M_laws_szStringS w_StringS
  refine sz_list h0 h1 hb.1 hf (L := M_laws_szStringS_L0 fu x) (fun k y i z hl hz hy hy1 => ?_) (fun k y => by rw [M_laws_szStringS_L0, lt_f]; rfl)
  have hi := at_lt hz
  have hq := hb.2 z (at_mem hz)
  unfold qB maxLen at hq
  rw [M_laws_szStringS_L0, lt_t hi, cond_true, ck_t (inR_t hi), gtD_get hz, ck_t (i64B_t (by omega) (by omega))]
  by_cases h : (z.length : Int) ≤ y
  · rw [szR_lt h, szR_v h, decide_eq_false (by omega), cond_false, cond_false, ck_t (i64B_n (by omega)), succ_i]
  · rw [szR_ge h, decide_eq_true (by omega), cond_true, cond_true]
theorem to_StringS {fu : Nat} {x : List (List UInt8)} (hw : w_StringS x ≤ 1048576) (hf : 1048577 ≤ fu) : M_laws_toStringS fu x = some x := by
  have hw' := hw
  unfold w_StringS wL at hw'
  unfold M_laws_toStringS
  refine to_list (by omega) hf (L := M_laws_toStringS_L0 fu x) (fun k i ys z hi hl hz => ?_) (fun k ys => by rw [M_laws_toStringS_L0, lt_f]; rfl)
  rw [M_laws_toStringS_L0, lt_t hi, cond_true, ck_t (inR_t hi), ck_t (inR_t (by omega)), ck_t (i64B_n (by omega)), gtD_get hz, set_nat, succ_i]
theorem eq_StringS {fu : Nat} {x y : List (List UInt8)} (hw : w_StringS x ≤ 1048576) (hf : 1048577 ≤ fu) : M_laws_eqStringS fu x y = some (x == y) := by
  have hw' := hw
  unfold w_StringS wL at hw'
  unfold M_laws_eqStringS
  refine eq_list (by omega) (L := M_laws_eqStringS_L0 fu x y) (fun k i z z' hl hz hz' => ?_) (fun k => by rw [M_laws_eqStringS_L0, lt_f]; rfl)
  have hi := at_lt hz
  rw [M_laws_eqStringS_L0, lt_t hi, cond_true, ck_t (inR_t hi), ck_t (inR_t (at_lt hz')), ck_t (i64B_n (by omega)), gtD_get hz, gtD_get hz', succ_i]
def w_IntS (x : List (Int)) : Nat := wL (fun _ => 0) x
theorem eq_IntS {fu : Nat} {x y : List (Int)} (hw : w_IntS x ≤ 1048576) (hf : 1048577 ≤ fu) : M_laws_eqIntS fu x y = some (x == y) := by
  have hw' := hw
  unfold w_IntS wL at hw'
  unfold M_laws_eqIntS
  refine eq_list (by omega) (L := M_laws_eqIntS_L0 fu x y) (fun k i z z' hl hz hz' => ?_) (fun k => by rw [M_laws_eqIntS_L0, lt_f]; rfl)
  have hi := at_lt hz
  rw [M_laws_eqIntS_L0, lt_t hi, cond_true, ck_t (inR_t hi), ck_t (inR_t (at_lt hz')), ck_t (i64B_n (by omega)), gtD_get hz, gtD_get hz', succ_i]
  rfl
def mt (k : Int) : List UInt8 := gv (M_laws_markText 64 k)
theorem markText_loop {fu fu' : Nat} : ∀ (d : Nat) (y : Int) (s : List UInt8) (k : Nat), 0 ≤ y → y ≤ 4294967296 → y < 10 ^ d → d < k → s.length + d ≤ 1000 → ∃ r, r.length ≤ s.length + d ∧ M_laws_markText_L0 fu k y s = some r ∧ M_laws_markText_L0 fu' (d + 1) y s = some r
  | 0, y, s, k, h0, hM, h1, hk, hl => by
    obtain ⟨k, rfl⟩ : ∃ q, k = q + 1 := ⟨k - 1, by omega⟩
    obtain rfl : y = 0 := by omega
    exact ⟨s, by omega, rfl, rfl⟩
  | d + 1, y, s, k, h0, hM, h1, hk, hl => by
    obtain ⟨k, rfl⟩ : ∃ q, k = q + 1 := ⟨k - 1, by omega⟩
    rw [M_laws_markText_L0, M_laws_markText_L0]
    by_cases hy : 0 < y
    · have e1 : y.tmod 10 = y % 10 := Int.tmod_eq_emod_of_nonneg h0
      have e2 : y.tdiv 10 = y / 10 := Int.tdiv_eq_ediv_of_nonneg h0
      have hp : (10 : Int) ^ (d + 1) = 10 ^ d * 10 := Int.pow_succ ..
      have hm : 0 ≤ y % 10 ∧ y % 10 < 10 := ⟨Int.emod_nonneg _ (by omega), Int.emod_lt_of_pos _ (by omega)⟩
      have hlen : ((strB [IntKind.u8.wrap (48 + y.tmod 10)]) ++ s).length = s.length + 1 := by simp [strB]
      have hy2 : i64B (y.tdiv 10) = true := by
        rw [e2]
        exact i64B_t (by have := Int.ediv_nonneg h0 (show (0 : Int) ≤ 10 by omega); omega) (by have := Int.ediv_le_self 10 h0; omega)
      rw [decide_eq_true hy, cond_true, cond_true, ck_t (by decide), ck_t (i64B_t (by omega) (by omega)), ck_t (lenOK_t (by rw [hlen]; omega)), ck_t (by decide), ck_t hy2, ck_t (by decide), ck_t (i64B_t (by omega) (by omega)), ck_t (lenOK_t (by rw [hlen]; omega)), ck_t (by decide), ck_t hy2]
      obtain ⟨r, h2, h3, h4⟩ := markText_loop (fu := fu) (fu' := fu') d (y.tdiv 10) ((strB [IntKind.u8.wrap (48 + y.tmod 10)]) ++ s) k (by rw [e2]; exact Int.ediv_nonneg h0 (by omega)) (by rw [e2]; have := Int.ediv_le_self 10 h0; omega) (by rw [e2]; exact Int.ediv_lt_of_lt_mul (by omega) (by omega)) (by omega) (by rw [hlen]; omega)
      exact ⟨r, by rw [hlen] at h2; omega, h3, h4⟩
    · obtain rfl : y = 0 := by omega
      exact ⟨s, by omega, rfl, rfl⟩
theorem markText_t {fu : Nat} {k : Int} (h0 : 0 < k) (h1 : k ≤ 4294967296) (hf : 1048577 ≤ fu) : M_laws_markText fu k = some (mt k) := by
  obtain ⟨r, h2, h3, h4⟩ := markText_loop (fu := fu) (fu' := 64) 12 k [] fu (by omega) h1 (by omega) (by omega) (by decide)
  obtain ⟨r', _, h3', h4'⟩ := markText_loop (fu := 64) (fu' := 64) 12 k [] 64 (by omega) h1 (by omega) (by omega) (by decide)
  have e : r = r' := by rw [h4] at h4'; injection h4'
  subst e
  unfold mt M_laws_markText
  rw [decide_eq_false (by omega), cond_false, cond_false, h3, h3', cl_true, ck_t (lenOK_t (by simp at h2 ⊢; omega))]
  rfl

def fe_StringS (x : List UInt8) (k : Int) : List UInt8 := mt k
def ce_StringS (x : List UInt8) : Int := 1
theorem ce0_StringS (x : List UInt8) : 0 ≤ ce_StringS x := by
  unfold ce_StringS
  omega
def f_StringS (x : List (List UInt8)) (k : Int) : List (List UInt8) := mkW fe_StringS ce_StringS x k
def c_StringS (x : List (List UInt8)) : Int := cW ce_StringS x
theorem c0_StringS (x : List (List UInt8)) : 0 ≤ c_StringS x := cW_nonneg ce0_StringS x
theorem cw_StringS (x : List (List UInt8)) : c_StringS x ≤ 8 * (w_StringS x : Int) := by
  unfold c_StringS w_StringS
  refine cw_list (fun x => ?_) x
  unfold ce_StringS
  omega
theorem mark_StringS {fu : Nat} {x : List (List UInt8)} {k : Int} (hw : w_StringS x ≤ 1048576) (hk : 0 < k) (h1 : k + c_StringS x ≤ 4294967296) (hf : 1048577 ≤ fu) : M_laws_markStringS fu x k = some (k + c_StringS x, f_StringS x k) := by
  have hw' := hw
  unfold w_StringS wL at hw'
  unfold M_laws_markStringS
  have hb : ∀ z ∈ x, (fun s : List UInt8 => s.length) z ≤ 1048576 := fun z hz => Nat.le_trans (sz_mem (f := (fun s : List UInt8 => s.length)) hz) (by omega)
  refine mark_list (f := fe_StringS) (c := ce_StringS) (Bd := (fun z : List UInt8 => (fun s : List UInt8 => s.length) z ≤ 1048576)) (lim := 4294967296) (L := M_laws_markStringS_L0 fu) ce0_StringS (by omega) hk h1 hb (fun k y i ys z hi hl hz hy hyl hbz => ?_) (fun k y ys hl => by rw [M_laws_markStringS_L0, hl, lt_f]; rfl)
  have hil : i < ys.length := by omega
  unfold ce_StringS at hyl
  rw [M_laws_markStringS_L0, lt_t hil, cond_true, markText_t hy (by omega) hf, cl_true, ck_t (inR_t hil), ck_t (i64B_t (by omega) (by omega)), ck_t (i64B_n (by omega)), set_nat, succ_i]
  rfl
def fe_IntS (x : Int) (k : Int) : Int := k
def ce_IntS (x : Int) : Int := 1
theorem ce0_IntS (x : Int) : 0 ≤ ce_IntS x := by
  unfold ce_IntS
  omega
def f_IntS (x : List (Int)) (k : Int) : List (Int) := mkW fe_IntS ce_IntS x k
def c_IntS (x : List (Int)) : Int := cW ce_IntS x
theorem c0_IntS (x : List (Int)) : 0 ≤ c_IntS x := cW_nonneg ce0_IntS x
theorem cw_IntS (x : List (Int)) : c_IntS x ≤ 8 * (w_IntS x : Int) := by
  unfold c_IntS w_IntS
  refine cw_list (fun x => ?_) x
  unfold ce_IntS
  omega
theorem mark_IntS {fu : Nat} {x : List (Int)} {k : Int} (hw : w_IntS x ≤ 1048576) (hk : 0 < k) (h1 : k + c_IntS x ≤ 4294967296) (hf : 1048577 ≤ fu) : M_laws_markIntS fu x k = some (k + c_IntS x, f_IntS x k) := by
  have hw' := hw
  unfold w_IntS wL at hw'
  unfold M_laws_markIntS
  have hb : ∀ z ∈ x, (fun _ => 0) z ≤ 1048576 := fun z hz => Nat.le_trans (sz_mem (f := (fun _ => 0)) hz) (by omega)
  refine mark_list (f := fe_IntS) (c := ce_IntS) (Bd := (fun z : Int => (fun _ => 0) z ≤ 1048576)) (lim := 4294967296) (L := M_laws_markIntS_L0 fu) ce0_IntS (by omega) hk h1 hb (fun k y i ys z hi hl hz hy hyl hbz => ?_) (fun k y ys hl => by rw [M_laws_markIntS_L0, hl, lt_f]; rfl)
  have hil : i < ys.length := by omega
  unfold ce_IntS at hyl
  rw [M_laws_markIntS_L0, lt_t hil, cond_true, ck_t (inR_t hil), ck_t (i64B_t (by omega) (by omega)), ck_t (i64B_n (by omega)), set_nat, succ_i]
  rfl
theorem held_IntS {fu : Nat} {x z : List (Int)} {k : Int} (hz : z = f_IntS x k) (hw : w_IntS x ≤ 1048576) (hk : 0 < k) (h1 : k + c_IntS x ≤ 4294967296) (hf : 1048577 ≤ fu) : M_laws_heldIntS fu z k = some (k + c_IntS x) := by
  have hw' := hw
  unfold w_IntS wL at hw'
  unfold M_laws_heldIntS
  have hb : ∀ z ∈ x, (fun _ => 0) z ≤ 1048576 := fun z hz => Nat.le_trans (sz_mem (f := (fun _ => 0)) hz) (by omega)
  have hzl : z.length = x.length := by rw [hz]; exact mkW_length
  refine held_list (f := fe_IntS) (c := ce_IntS) (Bd := (fun z : Int => (fun _ => 0) z ≤ 1048576)) (lim := 4294967296) (L := M_laws_heldIntS_L0 fu z) hz ce0_IntS (by omega) hk h1 hb (fun k y i u hu hy hyl hbz => ?_) (fun k y => by rw [M_laws_heldIntS_L0, lt_f]; rfl)
  have hi := at_lt hu
  unfold ce_IntS at hyl
  rw [M_laws_heldIntS_L0, lt_t hi, cond_true, ck_t (inR_t hi), gtD_get hu, show (fe_IntS u y != y) = false from bne_self_eq_false' _, cond_false, ck_t (i64B_t (by omega) (by omega)), ck_t (i64B_n (by omega)), succ_i]
  rfl
theorem law_SimilarStrings {fu : Nat} {a0 : List (List UInt8)} {a1 : List UInt8} {a2 : Int} (hf : 1048577 ≤ fu) (h0 : (qS qB) a0) (h1 : qB a1) (h2 : qI a2)
    (hs : a1.length ≤ 1048576 → w_StringS a0 ≤ 1048576 → ∃ r : (List (Int)), M_spec_SimilarStrings fu a0 a1 a2 = some r ∧ M_impl_SimilarStrings fu a0 a1 a2 = some r ∧ w_IntS r ≤ 1048576) : M_laws_FnExactSimilarStrings fu a0 a1 a2 = some true := by
  unfold M_laws_FnExactSimilarStrings
  by_cases s1 : ¬ a1.length ≤ 1048576
  · rw [show decide ((1048576 : Int) < (a1.length : Int)) = true from decide_eq_true (by omega), cond_true]
  replace s1 := Classical.not_not.1 s1
  rw [show decide ((1048576 : Int) < (a1.length : Int)) = false from decide_eq_false (by omega), cond_false]
  rw [sz_StringS h0 (by omega) (by omega) hf, cl_true]
  by_cases g0 : ¬ (w_StringS a0 : Int) ≤ 1048576
  · rw [szR_ge g0, cond_true]
  replace g0 := Classical.not_not.1 g0
  rw [szR_lt g0, cond_false]
  obtain ⟨r, e1, e2, v0⟩ := hs s1 (by omega)
  have t0 : M_laws_toStringS fu a0 = some a0 := to_StringS (by omega) hf
  have q0 : M_laws_eqStringS fu a0 a0 = some (a0 == a0) := eq_StringS (by omega) hf
  have p0 : M_laws_eqIntS fu r r = some (r == r) := eq_IntS (by omega) hf
  have c0 := c0_StringS a0
  have d0 := cw_StringS a0
  have m0 : M_laws_markStringS fu a0 (1) = some (1 + c_StringS a0, f_StringS a0 (1)) := mark_StringS (by omega) (by omega) (by omega) hf
  have k0 : decide (1 + c_StringS a0 < 0) = false := decide_eq_false (by omega)
  have cr0 := c0_IntS r
  have dr0 := cw_IntS r
  have mr0 : M_laws_markIntS fu r (1) = some (1 + c_IntS r, f_IntS r (1)) := mark_IntS (by omega) (by omega) (by omega) hf
  have hr0 : M_laws_heldIntS fu (f_IntS r (1)) (1) = some (1 + c_IntS r) := held_IntS rfl (by omega) (by omega) (by omega) hf
  have kr0 : decide (1 + c_IntS r < 0) = false := decide_eq_false (by omega)
  simp only [e1, e2, cl_true, bd_eq, beq_self_eq_true, bne_self_eq_false', Bool.not_true, Bool.not_false, cond_false, cond_true, Bool.true_and, Bool.and_true, Bool.false_or, Bool.or_false, Bool.true_or, Bool.false_and, t0, q0, p0, m0, k0, mr0, hr0, kr0, show (false == false) = true from rfl, show (true == false) = false from rfl, show (false == true) = false from rfl]
end Go.Proofs.Ytofiipblinonoaa
