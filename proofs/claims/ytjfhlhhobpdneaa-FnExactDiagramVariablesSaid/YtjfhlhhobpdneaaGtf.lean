/- Plain: tables of tokens, prefixes, orders; program and reference alike. No statement of the seat is proved here. -/
import Derived.Test.YtjfhlhhobpdneaaGts
import Derived.Test.YtjfhlhhobpdneaaGst
namespace Go.Proofs.Ytjfhlhhobpdneaa
open Go.RowKit
set_option linter.unusedVariables false
set_option linter.unusedSimpArgs false

def frq (tb : List (List UInt8 × Int)) (t : List UInt8) : Int := match tb.find? (fun x => x.1 == t) with | some x => x.2 | none => 0
/-! ### the order of tokens -/
def tlt (tb : List (List UInt8 × Int)) (a b : List UInt8) : Bool := decide (frq tb a < frq tb b) || (frq tb a == frq tb b && bLt a b)
theorem sto_tlt (tb : List (List UInt8 × Int)) : Sto (tlt tb) := by
  refine ⟨fun a => ?_, fun a b c h k => ?_, fun a b h k => ?_⟩
  · unfold tlt
    rw [bLt_irrefl]
    simp
  · unfold tlt at *
    simp only [Bool.or_eq_true, Bool.and_eq_true, decide_eq_true_eq, beq_iff_eq] at *
    rcases h with h | ⟨h, h'⟩ <;> rcases k with k | ⟨k, k'⟩
    · exact .inl (by omega)
    · exact .inl (by omega)
    · exact .inl (by omega)
    · exact .inr ⟨by omega, bLt_trans h' k'⟩
  · unfold tlt at *
    simp only [Bool.or_eq_false_iff, Bool.and_eq_false_imp, decide_eq_false_iff_not, beq_iff_eq] at *
    have e : frq tb a = frq tb b := by omega
    exact bLt_tri (h.2 e) (k.2 e.symm)
theorem or_t {fu : Nat} {x y : Int} (hf : 1048577 ≤ fu) : M_cmp_Or_int fu [x, y] = some (if x ≠ 0 then x else y) := by
  unfold M_cmp_Or_int
  obtain ⟨f, rfl⟩ : ∃ f, fu = f + 3 := ⟨fu - 3, by omega⟩
  rw [M_cmp_Or_int_L0]
  by_cases hx : x = 0
  · subst hx
    rw [M_cmp_Or_int_L0]
    by_cases hy : y = 0
    · subst hy
      rw [M_cmp_Or_int_L0]
      rfl
    · have : (gtD [0, y] (0 + 1 : Int) != 0) = true := by
        show (y != 0) = true
        simpa using hy
      rw [this]
      simp [gtD, inR, cl_true, ck_tt, i64B, exM_ret]
  · have : (gtD [x, y] (0 : Int) != 0) = true := by
      show (x != 0) = true
      simpa using hx
    rw [this]
    simp [gtD, inR, cl_true, ck_tt, i64B, exM_ret, hx]
theorem cmpI_t {fu : Nat} {x y : Int} : M_cmp_Compare_int fu x y = some (if x < y then -1 else if y < x then 1 else 0) := by
  unfold M_cmp_Compare_int M_cmp_isNaN_int
  simp only [bne_self_eq_false', cl_true, cond_false]
  by_cases h : x < y
  · rw [decide_eq_true h, if_pos h]; rfl
  · rw [decide_eq_false h, if_neg h]
    by_cases h2 : y < x
    · rw [decide_eq_true h2, if_pos h2]; rfl
    · rw [decide_eq_false h2, if_neg h2]; rfl
def tcmp (tb : List (List UInt8 × Int)) (a b : List UInt8) : Int := if frq tb a < frq tb b then -1 else if frq tb b < frq tb a then 1 else (bif bLt a b then -1 else bif bLt b a then 1 else 0)
theorem tcmp_lt (tb : List (List UInt8 × Int)) (a b : List UInt8) : decide (tcmp tb a b < 0) = tlt tb a b := by
  unfold tcmp tlt
  by_cases h1 : frq tb a < frq tb b
  · simp [h1]
  · by_cases h2 : frq tb b < frq tb a
    · have : (frq tb a == frq tb b) = false := by simp; omega
      simp [h1, h2, this]
    · have : (frq tb a == frq tb b) = true := by simp; omega
      rw [if_neg h1, if_neg h2, this, decide_eq_false h1]
      cases bLt a b
      · cases bLt b a <;> rfl
      · rfl
/-! ### lengths of prefixes -/
def goodLT (n t : Int) : Bool := (decide (0 ≤ n) && decide (n ≤ 1000)) && (decide (1 ≤ t) && decide (t ≤ 1000))
def lowB (n t : Int) : Int := (n * t + 999) / 1000
def highB (n t : Int) : Int := n * 1000 / t
theorem good_iff {n t : Int} : goodLT n t = true ↔ 0 ≤ n ∧ n ≤ 1000 ∧ 1 ≤ t ∧ t ≤ 1000 := by
  unfold goodLT
  simp only [Bool.and_eq_true, decide_eq_true_eq]
  omega
theorem mul_b {n t : Int} (h : goodLT n t = true) : 0 ≤ n * t ∧ n * t ≤ 1000000 := by
  obtain ⟨h1, h2, h3, h4⟩ := good_iff.1 h
  have h5 : 0 ≤ n * t := Int.mul_nonneg h1 (by omega)
  have h6 : n * t ≤ 1000 * 1000 := Int.mul_le_mul h2 h4 (by omega) (by omega)
  omega
theorem div_b {n t : Int} (h : goodLT n t = true) : 0 ≤ n * 1000 / t ∧ n * 1000 / t ≤ 1000000 := by
  obtain ⟨h1, h2, h3, h4⟩ := good_iff.1 h
  have h5 : 0 ≤ n * 1000 := by omega
  exact ⟨Int.ediv_nonneg h5 (by omega), by have := Int.ediv_le_self t h5; omega⟩
def preL (n t : Int) : Int := bif goodLT n t then (if n = 0 then 0 else n - lowB n t + 1) else -1
theorem preL_le {n t : Int} (h : 0 ≤ preL n t) (hn : 0 ≤ n) : preL n t ≤ n := by
  unfold preL at *
  cases hg : goodLT n t
  · rw [hg] at h
    simp at h
  · rw [hg, cond_true] at h
    rw [cond_true]
    obtain ⟨h1, h2, h3, h4⟩ := good_iff.1 hg
    split
    · omega
    · have : 1 ≤ n * t := by
        have := Int.mul_le_mul (show (1 : Int) ≤ n by omega) h3 (by omega) (by omega)
        omega
      unfold lowB
      omega
/-! ### prefixes of sets -/
def ordL (tb : List (List UInt8 × Int)) (l : List (List UInt8)) : List (List UInt8) := l.mergeSort fun x y => !(tlt tb y x)
def preT (tb : List (List UInt8 × Int)) (l : List (List UInt8)) (t : Int) : List (List UInt8) := bif (!(tokB l)) || decide (preL l.length t < 0) then [] else (ordL tb l).take (preL l.length t).toNat
theorem preT_length (tb : List (List UInt8 × Int)) (l : List (List UInt8)) (t : Int) : (preT tb l t).length ≤ l.length := by
  unfold preT
  cases ((!(tokB l)) || decide (preL l.length t < 0))
  · rw [cond_false, List.length_take]
    unfold ordL
    rw [List.length_mergeSort]
    omega
  · exact Nat.zero_le _
theorem preT_sub {tb : List (List UInt8 × Int)} {l : List (List UInt8)} {t : Int} {x : List UInt8} (h : x ∈ preT tb l t) : x ∈ l := by
  unfold preT at h
  cases hc : ((!(tokB l)) || decide (preL l.length t < 0))
  · rw [hc, cond_false] at h
    have := List.mem_of_mem_take h
    unfold ordL at this
    exact List.mem_mergeSort.1 this
  · rw [hc] at h
    cases h
def comB (a b : List (List UInt8)) : List (List UInt8) := (setL a).filter fun x => b.any fun y => y == x
def shareB (tb : List (List UInt8 × Int)) (a b : List (List UInt8)) (t : Int) : Bool := decide ((0 : Int) < ((comB (preT tb a t) (preT tb b t)).length : Int))
end Go.Proofs.Ytjfhlhhobpdneaa

