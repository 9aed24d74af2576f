/- Contracts of the functions that compute with numbers alone: LengthFilter, EditLimit, MinCommonGrams, PrefixLength and what they call. -/
import Derived.Test.YtdjagnlmcponaaaProg
import Derived.Test.YtdjagnlmcponaaaBase
namespace Go.Proofs.Ytdjagnlmcponaaa
open Go.RowKit

theorem sIn_any (x lo hi : Int) (w : World) : Calls Try.prog 49 #[.int .i64 x, .int .i64 lo, .int .i64 hi] w fun e w' => e = .returned (.bool (inB x lo hi)) ∧ w = w' := by
  by_cases h : lo ≤ x <;> by_cases h' : x ≤ hi
  all_goals
    go_enter Try.func49, Try.ntmps49
    go_wp2
    go_ret
    exact ⟨ret_bool (by simp [inB, h, h']), rfl⟩
theorem within_any (x lo hi : Int) (w : World) : Calls Try.prog 50 #[.int .i64 x, .int .i64 lo, .int .i64 hi] w fun e w' => e = .returned (.bool (inB x lo hi)) ∧ w = w' := by
  by_cases h : lo ≤ x <;> by_cases h' : x ≤ hi
  all_goals
    go_enter Try.func50, Try.ntmps50
    go_wp2
    go_ret
    exact ⟨ret_bool (by simp [inB, h, h']), rfl⟩

theorem sLengthFilter_any (a b : ByteArray) (l : Int) (ha : a.size ≤ 1048576) (hb : b.size ≤ 1048576) (w : World) :
    Calls Try.prog 14 #[.string a, .string b, .int .i64 l] w fun e w' => e = .returned (.bool (decide (((max a.size b.size - min a.size b.size : Nat) : Int) ≤ l))) ∧ w = w' := by
  by_cases h : a.size < b.size <;> by_cases h' : b.size < a.size
  all_goals first
    | (exfalso; omega)
    | (go_enter Try.func14, Try.ntmps14
       go_wp2
       go_ret
       exact ⟨ret_bool (by congr 1; simp only [eq_iff_iff]; omega), rfl⟩)
theorem LengthFilter_any (a b : ByteArray) (l : Int) (ha : a.size ≤ 1048576) (hb : b.size ≤ 1048576) (w : World) :
    Calls Try.prog 15 #[.string a, .string b, .int .i64 l] w fun e w' => e = .returned (.bool (decide (((max a.size b.size - min a.size b.size : Nat) : Int) ≤ l))) ∧ w = w' := by
  by_cases h : a.size < b.size <;> by_cases h' : b.size < a.size
  all_goals first
    | (exfalso; omega)
    | (go_enter Try.func15, Try.ntmps15
       go_wp2
       go_ret
       exact ⟨ret_bool (by congr 1; simp only [eq_iff_iff]; omega), rfl⟩)

/-! ### EditLimit, MinCommonGrams -/
def goodB (x y q l : Int) : Bool := inB x 0 40 && inB y 0 40 && inB q 1 3 && inB l 0 40
theorem l10Good_any (x y q l : Int) (w : World) : Calls Try.prog 48 #[.int .i64 x, .int .i64 y, .int .i64 q, .int .i64 l] w fun e w' => e = .returned (.bool (goodB x y q l)) ∧ w = w' := by
  cases h1 : inB x 0 40 <;> cases h2 : inB y 0 40 <;> cases h3 : inB q 1 3 <;> cases h4 : inB l 0 40
  all_goals
    go_enter Try.func48, Try.ntmps48
    go_wp2_with (go_at_call 49; refine (sIn_any _ _ _ _).mono ?_; rintro e w' ⟨rfl, rfl⟩)
    go_ret
    exact ⟨ret_bool (by simp [goodB, h1, h2, h3, h4]), rfl⟩

def eLim (x y s : Int) : Int := if inB x 0 40 && inB y 0 40 && inB s 0 1000 then max x y * (1000 - s) / 1000 else -1
theorem sEditLimit_any (x y s : Int) (w : World) : Calls Try.prog 16 #[.int .i64 x, .int .i64 y, .int .i64 s] w fun e w' => e = .returned (.int .i64 (eLim x y s)) ∧ w = w' := by
  have hg : goodB x y 1 0 = (inB x 0 40 && inB y 0 40) := by simp [goodB, inB]
  cases h1 : (inB x 0 40 && inB y 0 40) <;> cases h3 : inB s 0 1000
  case true.true =>
    rw [h1] at hg
    have he : eLim x y s = max x y * (1000 - s) / 1000 := by rw [eLim, h1, h3]; rfl
    simp only [Bool.and_eq_true] at h1
    obtain ⟨x0, x1⟩ := inB_true.1 h1.1
    obtain ⟨y0, y1⟩ := inB_true.1 h1.2
    obtain ⟨s0, s1⟩ := inB_true.1 h3
    have px : 0 ≤ x * (1000 - s) := Int.mul_nonneg x0 (by omega)
    have py : 0 ≤ y * (1000 - s) := Int.mul_nonneg y0 (by omega)
    have qx : x * (1000 - s) ≤ 40 * 1000 := Int.mul_le_mul x1 (by omega) (by omega) (by omega)
    have qy : y * (1000 - s) ≤ 40 * 1000 := Int.mul_le_mul y1 (by omega) (by omega) (by omega)
    have HE := Lib.hid he
    clear he h1
    by_cases hxy : x < y <;> by_cases hyx : y < x
    all_goals first
      | (exfalso; omega)
      | (go_enter Try.func16, Try.ntmps16
         go_wp2_with (first | (go_at_call 48; refine (l10Good_any _ _ _ _ _).mono ?_; rintro e w' ⟨rfl, rfl⟩) | (go_at_call 49; refine (sIn_any _ _ _ _).mono ?_; rintro e w' ⟨rfl, rfl⟩))
         go_ret
         exact ⟨by rw [HE.out]; exact ret_int (by congr 1; rw [Int.max_def]; split <;> first | rfl | (congr 1; omega)), rfl⟩)
  all_goals
    have he : eLim x y s = -1 := by rw [eLim, h1, h3]; rfl
    have HE := Lib.hid he
    rw [h1] at hg
    clear he h1
    go_enter Try.func16, Try.ntmps16
    go_wp2_with (first | (go_at_call 48; refine (l10Good_any _ _ _ _ _).mono ?_; rintro e w' ⟨rfl, rfl⟩) | (go_at_call 49; refine (sIn_any _ _ _ _).mono ?_; rintro e w' ⟨rfl, rfl⟩))
    go_ret
    exact ⟨by rw [HE.out]; rfl, rfl⟩
theorem EditLimit_any (x y s : Int) (w : World) : Calls Try.prog 17 #[.int .i64 x, .int .i64 y, .int .i64 s] w fun e w' => e = .returned (.int .i64 (eLim x y s)) ∧ w = w' := by
  cases h1 : inB x 0 40 <;> cases h2 : inB y 0 40 <;> cases h3 : inB s 0 1000
  case true.true.true =>
    have he : eLim x y s = max x y * (1000 - s) / 1000 := by rw [eLim, h1, h2, h3]; rfl
    obtain ⟨x0, x1⟩ := inB_true.1 h1
    obtain ⟨y0, y1⟩ := inB_true.1 h2
    obtain ⟨s0, s1⟩ := inB_true.1 h3
    have px : 0 ≤ x * (1000 - s) := Int.mul_nonneg x0 (by omega)
    have py : 0 ≤ y * (1000 - s) := Int.mul_nonneg y0 (by omega)
    have qx : x * (1000 - s) ≤ 40 * 1000 := Int.mul_le_mul x1 (by omega) (by omega) (by omega)
    have qy : y * (1000 - s) ≤ 40 * 1000 := Int.mul_le_mul y1 (by omega) (by omega) (by omega)
    have HE := Lib.hid he
    clear he
    by_cases hxy : x < y <;> by_cases hyx : y < x
    all_goals first
      | (exfalso; omega)
      | (go_enter Try.func17, Try.ntmps17
         go_wp2_with (go_at_call 50; refine (within_any _ _ _ _).mono ?_; rintro e w' ⟨rfl, rfl⟩)
         go_ret
         exact ⟨by rw [HE.out]; exact ret_int (by congr 1; rw [Int.max_def]; split <;> first | rfl | (congr 1; omega)), rfl⟩)
  all_goals
    have he : eLim x y s = -1 := by rw [eLim, h1, h2, h3]; rfl
    have HE := Lib.hid he
    clear he
    go_enter Try.func17, Try.ntmps17
    go_wp2_with (go_at_call 50; refine (within_any _ _ _ _).mono ?_; rintro e w' ⟨rfl, rfl⟩)
    go_ret
    exact ⟨by rw [HE.out]; rfl, rfl⟩

def minGrams (x y q l : Int) : Int := if goodB x y q l then max 0 (max x y - q + 1 - q * l) else -1
theorem sMinCommonGrams_any (x y q l : Int) (w : World) : Calls Try.prog 18 #[.int .i64 x, .int .i64 y, .int .i64 q, .int .i64 l] w fun e w' => e = .returned (.int .i64 (minGrams x y q l)) ∧ w = w' := by
  cases h : goodB x y q l
  · have he : minGrams x y q l = -1 := by rw [minGrams, h]; rfl
    rw [he]
    go_enter Try.func18, Try.ntmps18
    go_wp2_with (go_at_call 48; refine (l10Good_any _ _ _ _ _).mono ?_; rintro e w' ⟨rfl, rfl⟩)
    go_ret
    exact ⟨rfl, rfl⟩
  · have he : minGrams x y q l = max 0 (max x y - q + 1 - q * l) := by rw [minGrams, h]; rfl
    have h' := h
    simp only [goodB, Bool.and_eq_true] at h'
    obtain ⟨x0, x1⟩ := inB_true.1 h'.1.1.1
    obtain ⟨y0, y1⟩ := inB_true.1 h'.1.1.2
    obtain ⟨q0, q1⟩ := inB_true.1 h'.1.2
    obtain ⟨l0, l1⟩ := inB_true.1 h'.2
    have p0 : 0 ≤ q * l := Int.mul_nonneg (by omega) (by omega)
    have p1 : q * l ≤ 3 * 40 := Int.mul_le_mul q1 (by omega) (by omega) (by omega)
    have HE := Lib.hid he
    clear he h'
    by_cases hxy : x < y <;> by_cases hyx : y < x
    all_goals first
      | (exfalso; omega)
      | (go_enter Try.func18, Try.ntmps18
         go_wp2_with (go_at_call 48; refine (l10Good_any _ _ _ _ _).mono ?_; rintro e w' ⟨rfl, rfl⟩)
         all_goals
           go_ret
           exact ⟨by rw [HE.out]; exact ret_int (by omega), rfl⟩)
theorem MinCommonGrams_any (x y q l : Int) (w : World) : Calls Try.prog 19 #[.int .i64 x, .int .i64 y, .int .i64 q, .int .i64 l] w fun e w' => e = .returned (.int .i64 (minGrams x y q l)) ∧ w = w' := by
  cases h1 : inB x 0 40 <;> cases h2 : inB y 0 40 <;> cases h3 : inB q 1 3 <;> cases h4 : inB l 0 40
  case true.true.true.true =>
    have he : minGrams x y q l = max 0 (max x y - q + 1 - q * l) := by rw [minGrams, goodB, h1, h2, h3, h4]; rfl
    obtain ⟨x0, x1⟩ := inB_true.1 h1
    obtain ⟨y0, y1⟩ := inB_true.1 h2
    obtain ⟨q0, q1⟩ := inB_true.1 h3
    obtain ⟨l0, l1⟩ := inB_true.1 h4
    have p0 : 0 ≤ q * l := Int.mul_nonneg (by omega) (by omega)
    have p1 : q * l ≤ 3 * 40 := Int.mul_le_mul q1 (by omega) (by omega) (by omega)
    have HE := Lib.hid he
    clear he
    by_cases hxy : x < y <;> by_cases hyx : y < x
    all_goals first
      | (exfalso; omega)
      | (go_enter Try.func19, Try.ntmps19
         go_wp2_with (go_at_call 50; refine (within_any _ _ _ _).mono ?_; rintro e w' ⟨rfl, rfl⟩)
         all_goals
           go_ret
           exact ⟨by rw [HE.out]; exact ret_int (by omega), rfl⟩)
  all_goals
    have he : minGrams x y q l = -1 := by rw [minGrams, goodB, h1, h2, h3, h4]; rfl
    have HE := Lib.hid he
    clear he
    go_enter Try.func19, Try.ntmps19
    go_wp2_with (go_at_call 50; refine (within_any _ _ _ _).mono ?_; rintro e w' ⟨rfl, rfl⟩)
    go_ret
    exact ⟨by rw [HE.out]; rfl, rfl⟩

/-! ### LengthBounds, PrefixLength -/
def l5B (x y t : Int) : Bool := inB x 0 1000 && inB y 0 1000 && inB t 1 1000
theorem l5Good_any (x y t : Int) (w : World) : Calls Try.prog 51 #[.int .i64 x, .int .i64 y, .int .i64 t] w fun e w' => e = .returned (.bool (l5B x y t)) ∧ w = w' := by
  cases h1 : inB x 0 1000 <;> cases h2 : inB y 0 1000 <;> cases h3 : inB t 1 1000
  all_goals
    go_enter Try.func51, Try.ntmps51
    go_wp2_with (go_at_call 49; refine (sIn_any _ _ _ _).mono ?_; rintro e w' ⟨rfl, rfl⟩)
    go_ret
    exact ⟨ret_bool (by simp [l5B, h1, h2, h3]), rfl⟩
theorem isSize_any (x : Int) (w : World) : Calls Try.prog 65 #[.int .i64 x] w fun e w' => e = .returned (.bool (inB x 0 1000)) ∧ w = w' := by
  go_enter Try.func65, Try.ntmps65
  go_wp2_with (go_at_call 50; refine (within_any _ _ _ _).mono ?_; rintro e w' ⟨rfl, rfl⟩)
  go_ret
  exact ⟨rfl, rfl⟩
theorem isThreshold_any (x : Int) (w : World) : Calls Try.prog 66 #[.int .i64 x] w fun e w' => e = .returned (.bool (inB x 1 1000)) ∧ w = w' := by
  go_enter Try.func66, Try.ntmps66
  go_wp2_with (go_at_call 50; refine (within_any _ _ _ _).mono ?_; rintro e w' ⟨rfl, rfl⟩)
  go_ret
  exact ⟨rfl, rfl⟩
theorem ceilDiv_any (a b : Int) (ha : 0 ≤ a) (hb : 1 ≤ b) (ha1 : a ≤ 1000000000) (hb1 : b ≤ 1000000000) (w : World) :
    Calls Try.prog 67 #[.int .i64 a, .int .i64 b] w fun e w' => e = .returned (.int .i64 ((a + b - 1) / b)) ∧ w = w' := by
  go_enter Try.func67, Try.ntmps67
  go_wp2
  go_ret
  exact ⟨rfl, rfl⟩

def lowB (n t : Int) : Int := if inB n 0 1000 && inB t 1 1000 then (n * t + 999) / 1000 else -1
def highB (n t : Int) : Int := if inB n 0 1000 && inB t 1 1000 then n * 1000 / t else -1
theorem sLengthBounds_any (n t : Int) (w : World) : Calls Try.prog 52 #[.int .i64 n, .int .i64 t] w fun e w' => e = .returned (.tuple #[.int .i64 (lowB n t), .int .i64 (highB n t)]) ∧ ∃ k, w' = w.drewN k := by
  have hg : l5B n 0 t = (inB n 0 1000 && inB t 1 1000) := by simp [l5B, inB]
  cases h : (inB n 0 1000 && inB t 1 1000)
  · have he : lowB n t = -1 := by rw [lowB, h]; rfl
    have he' : highB n t = -1 := by rw [highB, h]; rfl
    rw [he, he']
    rw [h] at hg
    clear h he he'
    go_enter Try.func52, Try.ntmps52
    go_wp2_with (go_at_call 51; refine (l5Good_any _ _ _ _).mono ?_; rintro e w' ⟨rfl, rfl⟩)
    go_ret2
    exact ⟨rfl, 0, rfl⟩
  · have he : lowB n t = (n * t + 999) / 1000 := by rw [lowB, h]; rfl
    have he' : highB n t = n * 1000 / t := by rw [highB, h]; rfl
    rw [h] at hg
    have h' := h
    simp only [Bool.and_eq_true] at h'
    obtain ⟨x0, x1⟩ := inB_true.1 h'.1
    obtain ⟨y0, y1⟩ := inB_true.1 h'.2
    have p0 : 0 ≤ n * t := Int.mul_nonneg (by omega) (by omega)
    have p1 : n * t ≤ 1000 * 1000 := Int.mul_le_mul x1 (by omega) (by omega) (by omega)
    have hq : 0 ≤ n * 1000 / t := Int.ediv_nonneg (by omega) (by omega)
    have hq1 : n * 1000 / t ≤ n * 1000 := Int.ediv_le_self _ (by omega)
    have HE := Lib.hid he
    have HE' := Lib.hid he'
    clear he he' h h'
    go_enter Try.func52, Try.ntmps52
    go_wp2_with (go_at_call 51; refine (l5Good_any _ _ _ _).mono ?_; rintro e w' ⟨rfl, rfl⟩)
    go_quiet (fail)
    go_wp2
    go_ret2
    exact ⟨by rw [HE.out, HE'.out]; rfl, _, rfl⟩
theorem LengthBounds_any (n t : Int) (w : World) : Calls Try.prog 53 #[.int .i64 n, .int .i64 t] w fun e w' => e = .returned (.tuple #[.int .i64 (lowB n t), .int .i64 (highB n t)]) ∧ ∃ k, w' = w.drewN k := by
  cases h1 : inB n 0 1000 <;> cases h2 : inB t 1 1000
  case true.true =>
    have he : lowB n t = (n * t + 1000 - 1) / 1000 := by rw [lowB, h1, h2]; show (n * t + 999) / 1000 = _; congr 1; omega
    have he' : highB n t = n * 1000 / t := by rw [highB, h1, h2]; rfl
    obtain ⟨x0, x1⟩ := inB_true.1 h1
    obtain ⟨y0, y1⟩ := inB_true.1 h2
    have p0 : 0 ≤ n * t := Int.mul_nonneg (by omega) (by omega)
    have p1 : n * t ≤ 1000 * 1000 := Int.mul_le_mul x1 (by omega) (by omega) (by omega)
    have hw : IntKind.i64.wrap (n * t) = n * t := IntWalk.i64_in _ (by omega)
    have hq : 0 ≤ n * 1000 / t := Int.ediv_nonneg (by omega) (by omega)
    have hq1 : n * 1000 / t ≤ n * 1000 := Int.ediv_le_self _ (by omega)
    have HE := Lib.hid he
    have HE' := Lib.hid he'
    clear he he'
    go_enter Try.func53, Try.ntmps53
    go_wp2_with (first | (go_at_call 65; refine (isSize_any _ _).mono ?_; rintro e w' ⟨rfl, rfl⟩) | (go_at_call 66; refine (isThreshold_any _ _).mono ?_; rintro e w' ⟨rfl, rfl⟩))
    go_quiet ((go_at_call 67; exact quiet_l (ceilDiv_any _ _ p0 (by omega) (by omega) (by omega) _)))
    go_wp2
    go_ret2
    exact ⟨by rw [HE.out, HE'.out]; rfl, _, rfl⟩
  all_goals
    have he : lowB n t = -1 := by rw [lowB, h1, h2]; rfl
    have he' : highB n t = -1 := by rw [highB, h1, h2]; rfl
    rw [he, he']
    clear he he'
    go_enter Try.func53, Try.ntmps53
    go_wp2_with (first | (go_at_call 65; refine (isSize_any _ _).mono ?_; rintro e w' ⟨rfl, rfl⟩) | (go_at_call 66; refine (isThreshold_any _ _).mono ?_; rintro e w' ⟨rfl, rfl⟩))
    go_ret2
    exact ⟨rfl, 0, rfl⟩

def prefLen (n t : Int) : Int := if inB n 0 1000 && inB t 1 1000 then (if n = 0 then 0 else n - (n * t + 999) / 1000 + 1) else -1
theorem sPrefixLength_any (n t : Int) (w : World) : Calls Try.prog 20 #[.int .i64 n, .int .i64 t] w fun e w' => e = .returned (.int .i64 (prefLen n t)) ∧ ∃ k, w' = w.drewN k := by
  have hg : l5B n 0 t = (inB n 0 1000 && inB t 1 1000) := by simp [l5B, inB]
  cases h : (inB n 0 1000 && inB t 1 1000)
  · have he : prefLen n t = -1 := by rw [prefLen, h]; rfl
    rw [he]
    rw [h] at hg
    clear h he
    go_enter Try.func20, Try.ntmps20
    go_wp2_with (go_at_call 51; refine (l5Good_any _ _ _ _).mono ?_; rintro e w' ⟨rfl, rfl⟩)
    go_ret
    exact ⟨rfl, 0, rfl⟩
  · by_cases h0 : n = 0
    · subst h0
      have he : prefLen 0 t = 0 := by rw [prefLen, h]; rfl
      rw [he]
      rw [h] at hg
      clear h he
      go_enter Try.func20, Try.ntmps20
      go_wp2_with (go_at_call 51; refine (l5Good_any _ _ _ _).mono ?_; rintro e w' ⟨rfl, rfl⟩)
      go_ret
      exact ⟨rfl, 0, rfl⟩
    · have he : prefLen n t = n - (n * t + 999) / 1000 + 1 := by rw [prefLen, h, if_pos rfl, if_neg h0]
      have hl : lowB n t = (n * t + 999) / 1000 := by rw [lowB, h]; rfl
      have h' := h
      simp only [Bool.and_eq_true] at h'
      obtain ⟨x0, x1⟩ := inB_true.1 h'.1
      obtain ⟨y0, y1⟩ := inB_true.1 h'.2
      have p0 : 0 ≤ n * t := Int.mul_nonneg (by omega) (by omega)
      have p1 : n * t ≤ 1000 * 1000 := Int.mul_le_mul x1 (by omega) (by omega) (by omega)
      have l0 : 0 ≤ lowB n t ∧ lowB n t ≤ 2000 := by rw [hl]; omega
      obtain ⟨l0, l1⟩ := l0
      rw [← hl] at he
      rw [h] at hg
      have hne : (n == 0) = false := by simp [h0]
      have HE := Lib.hid he
      clear he h h' hl h0
      go_enter Try.func20, Try.ntmps20
      go_wp2_with (first | (go_at_call 51; refine (l5Good_any _ _ _ _).mono ?_; rintro e w' ⟨rfl, rfl⟩) | (go_at_call 52; refine (sLengthBounds_any _ _ _).mono ?_; rintro e w' ⟨rfl, k, rfl⟩))
      go_ret
      exact ⟨by rw [HE.out]; rfl, k, rfl⟩
theorem PrefixLength_any (n t : Int) (w : World) : Calls Try.prog 21 #[.int .i64 n, .int .i64 t] w fun e w' => e = .returned (.int .i64 (prefLen n t)) ∧ ∃ k, w' = w.drewN k := by
  cases h : (inB n 0 1000 && inB t 1 1000)
  · have he : prefLen n t = -1 := by rw [prefLen, h]; rfl
    have hl : lowB n t = -1 := by rw [lowB, h]; rfl
    rw [he]
    clear h he
    go_enter Try.func21, Try.ntmps21
    go_wp2_with (go_at_call 53; refine (LengthBounds_any _ _ _).mono ?_; rintro e w' ⟨rfl, k, rfl⟩)
    go_ret
    exact ⟨rfl, k, rfl⟩
  · have hl : lowB n t = (n * t + 999) / 1000 := by rw [lowB, h]; rfl
    by_cases h0 : n = 0
    · subst h0
      have he : prefLen 0 t = 0 := by rw [prefLen, h]; rfl
      have hl : lowB 0 t = 0 := by rw [hl]; simp
      rw [he]
      clear h he
      go_enter Try.func21, Try.ntmps21
      go_wp2_with (go_at_call 53; refine (LengthBounds_any _ _ _).mono ?_; rintro e w' ⟨rfl, k, rfl⟩)
      go_ret
      exact ⟨rfl, k, rfl⟩
    · have he : prefLen n t = n - (n * t + 999) / 1000 + 1 := by rw [prefLen, h, if_pos rfl, if_neg h0]
      have h' := h
      simp only [Bool.and_eq_true] at h'
      obtain ⟨x0, x1⟩ := inB_true.1 h'.1
      obtain ⟨y0, y1⟩ := inB_true.1 h'.2
      have p0 : 0 ≤ n * t := Int.mul_nonneg (by omega) (by omega)
      have p1 : n * t ≤ 1000 * 1000 := Int.mul_le_mul x1 (by omega) (by omega) (by omega)
      have l0 : 0 ≤ lowB n t ∧ lowB n t ≤ 2000 := by rw [hl]; omega
      obtain ⟨l0, l1⟩ := l0
      rw [← hl] at he
      have hne : (n == 0) = false := by simp [h0]
      have HE := Lib.hid he
      clear he h h' hl h0
      go_enter Try.func21, Try.ntmps21
      go_wp2_with (go_at_call 53; refine (LengthBounds_any _ _ _).mono ?_; rintro e w' ⟨rfl, k, rfl⟩)
      go_ret
      exact ⟨by rw [HE.out]; rfl, k, rfl⟩
end Go.Proofs.Ytdjagnlmcponaaa
