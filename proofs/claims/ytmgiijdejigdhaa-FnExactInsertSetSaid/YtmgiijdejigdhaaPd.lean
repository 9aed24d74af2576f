/- Plain words: common loops over a list. No program in sight. No statement of the seat is proved here. -/
import Derived.Test.YtmgiijdejigdhaaPc
namespace Go.Proofs.Ytmgiijdejigdhaa
open Go.RowKit
set_option linter.unusedVariables false

/-- a loop that ends early at the first element with p -/
theorem loop_any {α ρ : Type} {xs : List α} {p : α → Bool} {r : ρ} {L : Nat → Int → Option (Ex ρ Unit)}
    (hs : ∀ k (i : Nat) x, xs[i]? = some x → L (k + 1) (i : Int) = bif p x then some (.ret r) else L k ((i + 1 : Nat) : Int)) (he : ∀ k, L (k + 1) (xs.length : Int) = some (.go ())) {fu : Nat} (hf : xs.length < fu) :
    L fu (0 : Int) = some (bif xs.any p then .ret r else .go ()) := by
  have key : ∀ m i k, i + m = xs.length → m < k → L k ((i : Nat) : Int) = some (bif (xs.drop i).any p then .ret r else .go ()) := by
    intro m
    induction m with
    | zero =>
      intro i k hi hk
      obtain ⟨k, rfl⟩ : ∃ q, k = q + 1 := ⟨k - 1, by omega⟩
      obtain rfl : i = xs.length := by omega
      rw [he, List.drop_length]
      rfl
    | succ m ih =>
      intro i k hi hk
      obtain ⟨k, rfl⟩ : ∃ q, k = q + 1 := ⟨k - 1, by omega⟩
      have hx := List.getElem?_eq_getElem (show i < xs.length by omega)
      rw [hs k i _ hx, drop_cons hx, List.any_cons]
      cases p xs[i]
      · exact ih (i + 1) k (by omega) (by omega)
      · rfl
  have := key xs.length 0 fu (by omega) hf
  rwa [show ((0 : Nat) : Int) = 0 from rfl, List.drop_zero] at this
/-- the same, with the element before it in sight -/
def adjB {α : Type} (b : α → α → Bool) : α → List α → Bool
  | _, [] => false
  | p, x :: xs => b p x || adjB b x xs
def adjAny {α : Type} (b0 : α → Bool) (b : α → α → Bool) : List α → Bool
  | [] => false
  | x :: xs => b0 x || adjB b x xs
theorem loop_adj {α ρ : Type} {xs : List α} {b0 : α → Bool} {b : α → α → Bool} {r : ρ} {L : Nat → Int → Option (Ex ρ Unit)}
    (h0 : ∀ k x, xs[0]? = some x → L (k + 1) (0 : Int) = bif b0 x then some (.ret r) else L k ((1 : Nat) : Int))
    (hs : ∀ k (i : Nat) q x, xs[i]? = some q → xs[i + 1]? = some x → L (k + 1) ((i + 1 : Nat) : Int) = bif b q x then some (.ret r) else L k ((i + 1 + 1 : Nat) : Int))
    (he : ∀ k, L (k + 1) (xs.length : Int) = some (.go ())) {fu : Nat} (hf : xs.length < fu) :
    L fu (0 : Int) = some (bif adjAny b0 b xs then .ret r else .go ()) := by
  have key : ∀ m i k q, i + 1 + m = xs.length → m < k → xs[i]? = some q → L k ((i + 1 : Nat) : Int) = some (bif adjB b q (xs.drop (i + 1)) then .ret r else .go ()) := by
    intro m
    induction m with
    | zero =>
      intro i k q hi hk hq
      obtain ⟨k, rfl⟩ : ∃ q, k = q + 1 := ⟨k - 1, by omega⟩
      have e : i + 1 = xs.length := by omega
      rw [e, he, List.drop_length]
      rfl
    | succ m ih =>
      intro i k q hi hk hq
      obtain ⟨k, rfl⟩ : ∃ q, k = q + 1 := ⟨k - 1, by omega⟩
      have hx := List.getElem?_eq_getElem (show i + 1 < xs.length by omega)
      rw [hs k i q _ hq hx, drop_cons hx, adjB]
      cases b q xs[i + 1]
      · exact ih (i + 1) k _ (by omega) (by omega) hx
      · rfl
  obtain ⟨k, rfl⟩ : ∃ q, fu = q + 1 := ⟨fu - 1, by omega⟩
  cases xs with
  | nil => exact he k
  | cons x xs =>
    rw [h0 k x rfl, adjAny]
    cases b0 x
    · have := key xs.length 0 k x (by simp; omega) (by simp at hf; omega) rfl
      exact this
    · rfl
/-- a loop that goes through the list with something in hand -/
theorem loop_fold {α σ : Type} {xs : List α} {g : σ → α → σ} {Inv : Nat → σ → Prop} {L : Nat → Int → σ → Option σ}
    (hs : ∀ k (i : Nat) a x, xs[i]? = some x → Inv i a → L (k + 1) (i : Int) a = L k ((i + 1 : Nat) : Int) (g a x)) (hI : ∀ (i : Nat) a x, xs[i]? = some x → Inv i a → Inv (i + 1) (g a x))
    (he : ∀ k a, Inv xs.length a → L (k + 1) (xs.length : Int) a = some a) {a : σ} (h0 : Inv 0 a) {fu : Nat} (hf : xs.length < fu) :
    L fu (0 : Int) a = some (xs.foldl g a) ∧ Inv xs.length (xs.foldl g a) := by
  have key : ∀ m i k a, i + m = xs.length → m < k → Inv i a → L k ((i : Nat) : Int) a = some ((xs.drop i).foldl g a) ∧ Inv xs.length ((xs.drop i).foldl g a) := by
    intro m
    induction m with
    | zero =>
      intro i k a hi hk ha
      obtain ⟨k, rfl⟩ : ∃ q, k = q + 1 := ⟨k - 1, by omega⟩
      obtain rfl : i = xs.length := by omega
      rw [he k a ha, List.drop_length]
      exact ⟨rfl, ha⟩
    | succ m ih =>
      intro i k a hi hk ha
      obtain ⟨k, rfl⟩ : ∃ q, k = q + 1 := ⟨k - 1, by omega⟩
      have hx := List.getElem?_eq_getElem (show i < xs.length by omega)
      rw [hs k i a _ hx ha, drop_cons hx, List.foldl_cons]
      exact ih (i + 1) k _ (by omega) (by omega) (hI i a _ hx ha)
  have := key xs.length 0 fu a (by omega) hf h0
  rwa [show ((0 : Nat) : Int) = 0 from rfl, List.drop_zero] at this
theorem i64B_c {i : Nat} (hn : i ≤ 4294967296) : i64B ((i + 1 : Nat) : Int) = true := i64B_t (by omega) (by omega)
theorem i64B_i (i : Nat) (hn : i ≤ 4294967296) : i64B (i : Int) = true := i64B_t (by omega) (by omega)
theorem lt_0 {n : Nat} (h : 0 < n) : decide ((0 : Int) < (n : Int)) = true := decide_eq_true (by omega)
theorem inR_0 {n : Nat} (h : 0 < n) : inR (0 : Int) n = true := inR_t (i := 0) h
theorem gtD_0 {α : Type} [Inhabited α] {xs : List α} {x : α} (h : xs[0]? = some x) : gtD xs (0 : Int) = x := gtD_get (i := 0) h
theorem one_i : (0 : Int) + 1 = ((1 : Nat) : Int) := rfl
theorem i64B_1 : i64B ((1 : Nat) : Int) = true := rfl
theorem no_00 : decide ((0 : Int) < (0 : Int)) = false := rfl
theorem pred_i (i : Nat) : ((i + 1 : Nat) : Int) - 1 = (i : Int) := by omega
theorem pos_i (i : Nat) : decide ((0 : Int) < ((i + 1 : Nat) : Int)) = true := decide_eq_true (by omega)
end Go.Proofs.Ytmgiijdejigdhaa
