/- Words of the plain part: the printed functions' own words computed, loops that look for something. No program in sight. No statement of the seat is proved here. -/
import Derived.Test.YtmgiijdejigdhaaDx
namespace Go.Proofs.Ytmgiijdejigdhaa
open Go.RowKit
set_option linter.unusedVariables false

theorem cl_true {α β : Type} [Inhabited α] {x : α} {k : α → Option β} : cl true (some x) k = k x := rfl
theorem cl_false {α β : Type} [Inhabited α] {o : Option α} {k : α → Option β} : cl false o k = k default := rfl
theorem cl_if {α β : Type} [Inhabited α] {g : Bool} {x : α} {k : α → Option β} : cl g (some x) k = k (bif g then x else default) := by cases g <;> rfl
theorem bd_eq {α β : Type} {e : α} {k : α → Option β} : bd e k = k e := rfl
theorem ck_t {α : Type} {b : Bool} {k : Option α} (h : b = true) : ck b k = k := by rw [h]; rfl
theorem ck_tt {α : Type} {k : Option α} : ck true k = k := rfl
theorem exM_go' {ρ σ γ : Type} {s : σ} {f : ρ → Option γ} {g : σ → Option γ} : exM (.go s) f g = g s := rfl
theorem inR_t {i : Nat} {n : Nat} (h : i < n) : inR (i : Int) n = true := inR_iff.2 ⟨by omega, by omega⟩
theorem i64B_t {x : Int} (h0 : -9223372036854775808 ≤ x) (h1 : x ≤ 9223372036854775807) : i64B x = true := by simp [i64B, h0, h1]
/-- the first j of [i, i + m) at which P holds -/
def findB (P : Nat → Bool) : Nat → Nat → Option Nat
  | _, 0 => none
  | i, m + 1 => bif P i then some i else findB P (i + 1) m
theorem findB_lt {P : Nat → Bool} : ∀ {m i j : Nat}, findB P i m = some j → i ≤ j ∧ j < i + m ∧ P j = true
  | 0, i, j, h => by cases h
  | m + 1, i, j, h => by
    unfold findB at h
    cases hp : P i
    · rw [hp] at h
      have := findB_lt (m := m) h
      exact ⟨by omega, by omega, this.2.2⟩
    · rw [hp] at h
      obtain rfl := Option.some.inj h
      exact ⟨Nat.le_refl _, by omega, hp⟩
def exF {ρ : Type} (ret : Nat → ρ) (o : Option Nat) : Ex ρ Unit := match o with
  | some j => .ret (ret j)
  | none => .go ()
theorem loop_find {ρ : Type} {P : Nat → Bool} {ret : Nat → ρ} {L : Nat → Int → Option (Ex ρ Unit)} {n : Nat}
    (hs : ∀ k i, i < n → L (k + 1) ((i : Nat) : Int) = bif P i then some (.ret (ret i)) else L k ((i + 1 : Nat) : Int)) (he : ∀ k, L (k + 1) ((n : Nat) : Int) = some (.go ())) :
    ∀ m i k, i + m = n → m < k → L k ((i : Nat) : Int) = some (exF ret (findB P i m)) := by
  intro m
  induction m with
  | zero =>
    intro i k hi hk
    obtain ⟨k, rfl⟩ : ∃ q, k = q + 1 := ⟨k - 1, by omega⟩
    obtain rfl : i = n := by omega
    rw [he]
    rfl
  | succ m ih =>
    intro i k hi hk
    obtain ⟨k, rfl⟩ : ∃ q, k = q + 1 := ⟨k - 1, by omega⟩
    rw [hs k i (by omega)]
    unfold findB
    cases P i
    · exact ih (i + 1) k (by omega) (by omega)
    · rfl
/-- a loop that fills a row of the list's length, element by element -/
theorem loop_fill {α : Type} {xs : List α} {L : Nat → Int → List α → Option (List α)} 
    (hs : ∀ k i ys x, i < xs.length → ys.length = xs.length → xs[i]? = some x → L (k + 1) ((i : Nat) : Int) ys = L k ((i + 1 : Nat) : Int) (ys.set i x)) (he : ∀ k ys, L (k + 1) ((xs.length : Nat) : Int) ys = some ys) :
    ∀ m i k ys, i + m = xs.length → m < k → ys.length = xs.length → ys.take i = xs.take i → L k ((i : Nat) : Int) ys = some xs := by
  intro m
  induction m with
  | zero =>
    intro i k ys hi hk hy ht
    obtain ⟨k, rfl⟩ : ∃ q, k = q + 1 := ⟨k - 1, by omega⟩
    obtain rfl : i = xs.length := by omega
    rw [he]
    rw [List.take_of_length_le (by omega), List.take_of_length_le (by omega)] at ht
    rw [ht]
  | succ m ih =>
    intro i k ys hi hk hy ht
    obtain ⟨k, rfl⟩ : ∃ q, k = q + 1 := ⟨k - 1, by omega⟩
    have hlt : i < xs.length := by omega
    rw [hs k i ys _ hlt hy (List.getElem?_eq_getElem hlt)]
    refine ih (i + 1) k _ (by omega) (by omega) (by rw [List.length_set, hy]) ?_
    apply List.ext_getElem?
    intro j
    rw [List.getElem?_take, List.getElem?_take]
    split
    · rename_i hj
      rcases Nat.lt_or_ge j i with h | h
      · have := congrArg (fun l => l[j]?) ht
        simp only [List.getElem?_take, if_pos h] at this
        rw [List.getElem?_set_ne (by omega)]
        exact this
      · obtain rfl : j = i := by omega
        rw [List.getElem?_set_self (by omega), List.getElem?_eq_getElem hlt]
    · rfl
theorem gtD_get {α : Type} [Inhabited α] {xs : List α} {i : Nat} {x : α} (h : xs[i]? = some x) : gtD xs (i : Int) = x := by
  unfold gtD
  rw [Int.toNat_natCast, List.getD_eq_getElem?_getD, h]
  rfl
end Go.Proofs.Ytmgiijdejigdhaa
