/- Plain words for the laws' own helpers: sizes, copies, comparisons, marks. No program in sight. No statement of the seat is proved here. -/
import Derived.Test.YtmkgocdgkdglnaaPa
namespace Go.Proofs.Ytmkgocdgkdglnaa
open Go.RowKit
set_option linter.unusedVariables false

theorem lt_t {i n : Nat} (h : i < n) : decide ((i : Int) < (n : Int)) = true := by simpa using h
theorem lt_f (n : Nat) : decide ((n : Int) < (n : Int)) = false := decide_eq_false (Int.lt_irrefl _)
theorem i64B_n {i : Nat} (hn : i ≤ 4294967296) : i64B ((i : Int) + 1) = true := i64B_t (by omega) (by omega)
theorem at_lt {α : Type} {xs : List α} {i : Nat} {x : α} (h : xs[i]? = some x) : i < xs.length := (List.getElem?_eq_some_iff.1 h).1
theorem at_mem {α : Type} {xs : List α} {i : Nat} {x : α} (h : xs[i]? = some x) : x ∈ xs := List.mem_of_getElem? h
theorem succ_i (i : Nat) : (i : Int) + 1 = ((i + 1 : Nat) : Int) := rfl
theorem set_nat {α : Type} (xs : List α) (i : Nat) (x : α) : xs.set ((i : Nat) : Int).toNat x = xs.set i x := by rw [Int.toNat_natCast]
/-! ### sizes -/
def szR (n : Int) (w : Nat) : Int := if (w : Int) ≤ n then n - w else -1
theorem szR_lt {n : Int} {w : Nat} (h : (w : Int) ≤ n) : decide (szR n w < 0) = false := by
  unfold szR
  rw [if_pos h]
  exact decide_eq_false (by omega)
theorem szR_ge {n : Int} {w : Nat} (h : ¬ (w : Int) ≤ n) : decide (szR n w < 0) = true := by
  unfold szR
  rw [if_neg h]
  rfl
theorem szR_v {n : Int} {w : Nat} (h : (w : Int) ≤ n) : szR n w = n - w := if_pos h
theorem szR_add {n : Int} {w v : Nat} (h : (w : Int) ≤ n) : szR (n - w) v = szR n (w + v) := by
  unfold szR
  by_cases h2 : (v : Int) ≤ n - w
  · rw [if_pos h2, if_pos (by omega)]
    omega
  · rw [if_neg h2, if_neg (by omega)]
theorem szR_add_n {n : Int} {w v : Nat} (h : ¬ (w : Int) ≤ n) : szR n (w + v) = -1 := if_neg (by omega)
/-- the first step of a measure: a length is taken off -/
theorem sz_off {n : Int} {l : Nat} (hn : 0 ≤ n) (hn1 : n ≤ 1048576) (hl : l ≤ maxLen) {c : Option Int} {r : Int} (h1 : ¬ (l : Int) ≤ n → r = -1) (h2 : (l : Int) ≤ n → c = some r) :
    (ck (i64B (n - (l : Int))) <| bif (decide ((n - (l : Int)) < (0 : Int))) then some (-1 : Int) else c) = some r := by
  unfold maxLen at hl
  rw [ck_t (i64B_t (by omega) (by omega))]
  by_cases h : (l : Int) ≤ n
  · rw [decide_eq_false (by omega), cond_false]
    exact h2 h
  · rw [decide_eq_true (by omega), cond_true, h1 h]
def wL {α : Type} (f : α → Nat) (xs : List α) : Nat := xs.length + (xs.map f).sum
theorem drop_cons {α : Type} {xs : List α} {i : Nat} {x : α} (h : xs[i]? = some x) : xs.drop i = x :: xs.drop (i + 1) := by
  obtain ⟨h1, rfl⟩ := List.getElem?_eq_some_iff.1 h
  exact List.drop_eq_getElem_cons h1
theorem loop_szW {α : Type} {xs : List α} {f : α → Nat} {L : Nat → Int → Int → Option (Ex Int Int)}
    (hs : ∀ k y (i : Nat) x, xs[i]? = some x → 0 ≤ y → y ≤ 1048576 → L (k + 1) y (i : Int) = bif decide (szR y (f x) < 0) then some (.ret (-1)) else L k (szR y (f x)) ((i + 1 : Nat) : Int))
    (he : ∀ k y, L (k + 1) y (xs.length : Int) = some (.go y)) :
    ∀ m i k y, i + m = xs.length → m < k → 0 ≤ y → y ≤ 1048576 → L k y ((i : Nat) : Int) = some (if ((((xs.drop i).map f).sum : Nat) : Int) ≤ y then .go (szR y ((xs.drop i).map f).sum) else .ret (-1)) := by
  intro m
  induction m with
  | zero =>
    intro i k y hi hk h0 h1
    obtain ⟨k, rfl⟩ : ∃ q, k = q + 1 := ⟨k - 1, by omega⟩
    obtain rfl : i = xs.length := by omega
    rw [he, List.drop_length]
    simp [szR, h0]
  | succ m ih =>
    intro i k y hi hk h0 h1
    obtain ⟨k, rfl⟩ : ∃ q, k = q + 1 := ⟨k - 1, by omega⟩
    have hlt : i < xs.length := by omega
    have hx := List.getElem?_eq_getElem hlt
    rw [hs k y i _ hx h0 h1, drop_cons hx, List.map_cons, List.sum_cons]
    by_cases h : (f xs[i] : Int) ≤ y
    · rw [szR_lt h, cond_false, szR_v h, ih (i + 1) k _ (by omega) (by omega) (by omega) (by omega), szR_add h]
      congr 1
      by_cases h2 : ((((xs.drop (i + 1)).map f).sum : Nat) : Int) ≤ y - (f xs[i] : Int)
      · rw [if_pos h2, if_pos (by omega)]
      · rw [if_neg h2, if_neg (by omega)]
    · rw [szR_ge h, cond_true, if_neg (by omega)]
theorem sz_list {α : Type} {xs : List α} {f : α → Nat} {L : Nat → Int → Int → Option (Ex Int Int)} {n : Int} {fu : Nat} (hn : 0 ≤ n) (hn1 : n ≤ 1048576) (hl : xs.length ≤ maxLen) (hf : 1048577 ≤ fu)
    (hs : ∀ k y (i : Nat) x, xs.length ≤ 1048576 → xs[i]? = some x → 0 ≤ y → y ≤ 1048576 → L (k + 1) y (i : Int) = bif decide (szR y (f x) < 0) then some (.ret (-1)) else L k (szR y (f x)) ((i + 1 : Nat) : Int))
    (he : ∀ k y, L (k + 1) y (xs.length : Int) = some (.go y)) :
    (ck (i64B (n - (xs.length : Int))) <| bif (decide ((n - (xs.length : Int)) < (0 : Int))) then some (-1 : Int) else cl true (L fu (n - (xs.length : Int)) (0 : Int)) fun rl => exM rl (fun r => some r) fun s => some s) = some (szR n (wL f xs)) := by
  refine sz_off hn hn1 hl (fun h => szR_add_n h) fun h => ?_
  have := loop_szW (fun k y i x => hs k y i x (by omega)) he xs.length 0 fu (n - (xs.length : Int)) (by omega) (by omega) (by omega) (by omega)
  rw [show ((0 : Nat) : Int) = 0 from rfl] at this
  rw [this, cl_true, List.drop_zero]
  by_cases h2 : (((xs.map f).sum : Nat) : Int) ≤ n - (xs.length : Int)
  · rw [if_pos h2, szR_add h]
    rfl
  · rw [if_neg h2]
    unfold wL szR
    rw [if_neg (by omega)]
    rfl
theorem sz_mem {α : Type} {f : α → Nat} {x : α} : ∀ {xs : List α}, x ∈ xs → f x ≤ (xs.map f).sum
  | y :: ys, h => by
    rw [List.map_cons, List.sum_cons]
    rcases List.mem_cons.1 h with rfl | h
    · omega
    · have := sz_mem (f := f) h
      omega
/-! ### copies -/
theorem to_list {α : Type} [Inhabited α] {xs : List α} {z : α} {L : Nat → Int → List α → Option (List α)} {fu : Nat} (hl : xs.length ≤ 1048576) (hf : 1048577 ≤ fu)
    (hs : ∀ k (i : Nat) ys x, i < xs.length → ys.length = xs.length → xs[i]? = some x → L (k + 1) ((i : Nat) : Int) ys = L k ((i + 1 : Nat) : Int) (ys.set i x)) (he : ∀ k ys, L (k + 1) (xs.length : Int) ys = some ys) :
    (ck (mkOK (xs.length : Int)) <| cl true (L fu (0 : Int) (List.replicate (xs.length : Int).toNat z)) fun s => some s) = some xs := by
  rw [ck_t (mkOK_t (by omega))]
  have := loop_fill hs he xs.length 0 fu (List.replicate (xs.length : Int).toNat z) (by omega) (by omega) (by simp) (by simp)
  rw [show ((0 : Nat) : Int) = 0 from rfl] at this
  rw [this]
  rfl
/-! ### comparisons -/
theorem loop_eq {α : Type} [BEq α] {xs ys : List α} (hl : xs.length = ys.length) {L : Nat → Int → Option (Ex Bool Unit)}
    (hs : ∀ k (i : Nat) x y, xs[i]? = some x → ys[i]? = some y → L (k + 1) (i : Int) = bif !(x == y) then some (.ret false) else L k ((i + 1 : Nat) : Int))
    (he : ∀ k, L (k + 1) (xs.length : Int) = some (.go ())) :
    ∀ m i k, i + m = xs.length → m < k → L k ((i : Nat) : Int) = some (bif xs.drop i == ys.drop i then .go () else .ret false) := by
  intro m
  induction m with
  | zero =>
    intro i k hi hk
    obtain ⟨k, rfl⟩ : ∃ q, k = q + 1 := ⟨k - 1, by omega⟩
    obtain rfl : i = xs.length := by omega
    rw [he, List.drop_length, hl, List.drop_length]
    rfl
  | succ m ih =>
    intro i k hi hk
    obtain ⟨k, rfl⟩ : ∃ q, k = q + 1 := ⟨k - 1, by omega⟩
    have hx := List.getElem?_eq_getElem (show i < xs.length by omega)
    have hy := List.getElem?_eq_getElem (show i < ys.length by omega)
    rw [hs k i _ _ hx hy, drop_cons hx, drop_cons hy, List.cons_beq_cons]
    cases xs[i] == ys[i]
    · rfl
    · rw [Bool.not_true, cond_false, Bool.true_and]
      exact ih (i + 1) k (by omega) (by omega)
theorem beq_len {α : Type} [BEq α] : ∀ {xs ys : List α}, xs.length ≠ ys.length → (xs == ys) = false
  | [], [], h => absurd rfl h
  | [], _ :: _, _ => rfl
  | _ :: _, [], _ => rfl
  | x :: xs, y :: ys, h => by
    rw [List.cons_beq_cons, beq_len (xs := xs) (ys := ys) (fun e => h (by simp [e])), Bool.and_false]
theorem eq_list {α : Type} [BEq α] {xs ys : List α} {L : Nat → Int → Option (Ex Bool Unit)} {fu : Nat} (hf : xs.length < fu)
    (hs : ∀ k (i : Nat) x y, xs.length = ys.length → xs[i]? = some x → ys[i]? = some y → L (k + 1) (i : Int) = bif !(x == y) then some (.ret false) else L k ((i + 1 : Nat) : Int))
    (he : ∀ k, L (k + 1) (xs.length : Int) = some (.go ())) :
    (bif ((xs.length : Int) != (ys.length : Int)) then some false else cl true (L fu (0 : Int)) fun rl => exM rl (fun r => some r) fun s => some true) = some (xs == ys) := by
  by_cases hl : xs.length = ys.length
  · have h1 : ((xs.length : Int) != (ys.length : Int)) = false := by simp [hl]
    have := loop_eq hl (fun k i x y => hs k i x y hl) he xs.length 0 fu (by omega) (by omega)
    rw [show ((0 : Nat) : Int) = 0 from rfl, List.drop_zero, List.drop_zero] at this
    rw [h1, cond_false, this, cl_true]
    cases xs == ys <;> rfl
  · have h1 : ((xs.length : Int) != (ys.length : Int)) = true := by simp; omega
    rw [h1, cond_true, beq_len hl]
/-! ### marks -/
end Go.Proofs.Ytmkgocdgkdglnaa
