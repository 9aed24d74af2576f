/- Plain words for the laws' own helpers: sizes, copies, comparisons, marks. No program in sight. No statement of the seat is proved here. -/
import Derived.Test.YtmgiijdejigdhaaPa
namespace Go.Proofs.Ytmgiijdejigdhaa
open Go.RowKit
set_option linter.unusedVariables false

theorem lt_t {i n : Nat} (h : i < n) : decide ((i : Int) < (n : Int)) = true := by simpa using h
theorem lt_f (n : Nat) : decide ((n : Int) < (n : Int)) = false := decide_eq_false (Int.lt_irrefl _)
theorem i64B_n {i : Nat} (hn : i ≤ 4294967296) : i64B ((i : Int) + 1) = true := i64B_t (by omega) (by omega)
theorem at_lt {α : Type} {xs : List α} {i : Nat} {x : α} (h : xs[i]? = some x) : i < xs.length := (List.getElem?_eq_some_iff.1 h).1
theorem at_mem {α : Type} {xs : List α} {i : Nat} {x : α} (h : xs[i]? = some x) : x ∈ xs := List.mem_of_getElem? h
theorem succ_i (i : Nat) : (i : Int) + 1 = ((i + 1 : Nat) : Int) := rfl
theorem set_nat {α : Type} (xs : List α) (i : Nat) (x : α) : xs.set ((i : Nat) : Int).toNat x = xs.set i x := by rw [Int.toNat_natCast]
theorem gtD_set {α : Type} [Inhabited α] {xs : List α} {i : Nat} (h : i < xs.length) (x : α) : gtD (xs.set i x) (i : Int) = x := gtD_get (List.getElem?_set_self h)
/-! ### sizes -/
def szR (n : Int) (w : Nat) : Int := if (w : Int) ≤ n then n - w else -1
theorem szR_lt {n : Int} {w : Nat} (h : (w : Int) ≤ n) : decide (szR n w < 0) = false := by
  unfold szR
  rw [if_pos h]
  exact decide_eq_false (by omega)
theorem szR_ge {n : Int} {w : Nat} (h : ¬ (w : Int) ≤ n) : decide (szR n w < 0) = true := by
  unfold szR
  rw [if_neg h]
  rfl
theorem szR_v {n : Int} {w : Nat} (h : (w : Int) ≤ n) : szR n w = n - w := if_pos h
theorem szR_add {n : Int} {w v : Nat} (h : (w : Int) ≤ n) : szR (n - w) v = szR n (w + v) := by
  unfold szR
  by_cases h2 : (v : Int) ≤ n - w
  · rw [if_pos h2, if_pos (by omega)]
    omega
  · rw [if_neg h2, if_neg (by omega)]
theorem szR_add_n {n : Int} {w v : Nat} (h : ¬ (w : Int) ≤ n) : szR n (w + v) = -1 := if_neg (by omega)
/-- the first step of a measure: a length is taken off -/
theorem sz_off {n : Int} {l : Nat} (hn : 0 ≤ n) (hn1 : n ≤ 1048576) (hl : l ≤ maxLen) {c : Option Int} {r : Int} (h1 : ¬ (l : Int) ≤ n → r = -1) (h2 : (l : Int) ≤ n → c = some r) :
    (ck (i64B (n - (l : Int))) <| bif (decide ((n - (l : Int)) < (0 : Int))) then some (-1 : Int) else c) = some r := by
  unfold maxLen at hl
  rw [ck_t (i64B_t (by omega) (by omega))]
  by_cases h : (l : Int) ≤ n
  · rw [decide_eq_false (by omega), cond_false]
    exact h2 h
  · rw [decide_eq_true (by omega), cond_true, h1 h]
def wL {α : Type} (f : α → Nat) (xs : List α) : Nat := xs.length + (xs.map f).sum
theorem drop_cons {α : Type} {xs : List α} {i : Nat} {x : α} (h : xs[i]? = some x) : xs.drop i = x :: xs.drop (i + 1) := by
  obtain ⟨h1, rfl⟩ := List.getElem?_eq_some_iff.1 h
  exact List.drop_eq_getElem_cons h1
theorem loop_szW {α : Type} {xs : List α} {f : α → Nat} {L : Nat → Int → Int → Option (Ex Int Int)}
    (hs : ∀ k y (i : Nat) x, xs[i]? = some x → 0 ≤ y → y ≤ 1048576 → L (k + 1) y (i : Int) = bif decide (szR y (f x) < 0) then some (.ret (-1)) else L k (szR y (f x)) ((i + 1 : Nat) : Int))
    (he : ∀ k y, L (k + 1) y (xs.length : Int) = some (.go y)) :
    ∀ m i k y, i + m = xs.length → m < k → 0 ≤ y → y ≤ 1048576 → L k y ((i : Nat) : Int) = some (if ((((xs.drop i).map f).sum : Nat) : Int) ≤ y then .go (szR y ((xs.drop i).map f).sum) else .ret (-1)) := by
  intro m
  induction m with
  | zero =>
    intro i k y hi hk h0 h1
    obtain ⟨k, rfl⟩ : ∃ q, k = q + 1 := ⟨k - 1, by omega⟩
    obtain rfl : i = xs.length := by omega
    rw [he, List.drop_length]
    simp [szR, h0]
  | succ m ih =>
    intro i k y hi hk h0 h1
    obtain ⟨k, rfl⟩ : ∃ q, k = q + 1 := ⟨k - 1, by omega⟩
    have hlt : i < xs.length := by omega
    have hx := List.getElem?_eq_getElem hlt
    rw [hs k y i _ hx h0 h1, drop_cons hx, List.map_cons, List.sum_cons]
    by_cases h : (f xs[i] : Int) ≤ y
    · rw [szR_lt h, cond_false, szR_v h, ih (i + 1) k _ (by omega) (by omega) (by omega) (by omega), szR_add h]
      congr 1
      by_cases h2 : ((((xs.drop (i + 1)).map f).sum : Nat) : Int) ≤ y - (f xs[i] : Int)
      · rw [if_pos h2, if_pos (by omega)]
      · rw [if_neg h2, if_neg (by omega)]
    · rw [szR_ge h, cond_true, if_neg (by omega)]
theorem sz_list {α : Type} {xs : List α} {f : α → Nat} {L : Nat → Int → Int → Option (Ex Int Int)} {n : Int} {fu : Nat} (hn : 0 ≤ n) (hn1 : n ≤ 1048576) (hl : xs.length ≤ maxLen) (hf : 1048577 ≤ fu)
    (hs : ∀ k y (i : Nat) x, xs.length ≤ 1048576 → xs[i]? = some x → 0 ≤ y → y ≤ 1048576 → L (k + 1) y (i : Int) = bif decide (szR y (f x) < 0) then some (.ret (-1)) else L k (szR y (f x)) ((i + 1 : Nat) : Int))
    (he : ∀ k y, L (k + 1) y (xs.length : Int) = some (.go y)) :
    (ck (i64B (n - (xs.length : Int))) <| bif (decide ((n - (xs.length : Int)) < (0 : Int))) then some (-1 : Int) else cl true (L fu (n - (xs.length : Int)) (0 : Int)) fun rl => exM rl (fun r => some r) fun s => some s) = some (szR n (wL f xs)) := by
  refine sz_off hn hn1 hl (fun h => szR_add_n h) fun h => ?_
  have := loop_szW (fun k y i x => hs k y i x (by omega)) he xs.length 0 fu (n - (xs.length : Int)) (by omega) (by omega) (by omega) (by omega)
  rw [show ((0 : Nat) : Int) = 0 from rfl] at this
  rw [this, cl_true, List.drop_zero]
  by_cases h2 : (((xs.map f).sum : Nat) : Int) ≤ n - (xs.length : Int)
  · rw [if_pos h2, szR_add h]
    rfl
  · rw [if_neg h2]
    unfold wL szR
    rw [if_neg (by omega)]
    rfl
theorem sz_mem {α : Type} {f : α → Nat} {x : α} : ∀ {xs : List α}, x ∈ xs → f x ≤ (xs.map f).sum
  | y :: ys, h => by
    rw [List.map_cons, List.sum_cons]
    rcases List.mem_cons.1 h with rfl | h
    · omega
    · have := sz_mem (f := f) h
      omega
/-! ### copies -/
theorem to_list {α : Type} [Inhabited α] {xs : List α} {z : α} {L : Nat → Int → List α → Option (List α)} {fu : Nat} (hl : xs.length ≤ 1048576) (hf : 1048577 ≤ fu)
    (hs : ∀ k (i : Nat) ys x, i < xs.length → ys.length = xs.length → xs[i]? = some x → L (k + 1) ((i : Nat) : Int) ys = L k ((i + 1 : Nat) : Int) (ys.set i x)) (he : ∀ k ys, L (k + 1) (xs.length : Int) ys = some ys) :
    (ck (mkOK (xs.length : Int)) <| cl true (L fu (0 : Int) (List.replicate (xs.length : Int).toNat z)) fun s => some s) = some xs := by
  rw [ck_t (mkOK_t (by omega))]
  have := loop_fill hs he xs.length 0 fu (List.replicate (xs.length : Int).toNat z) (by omega) (by omega) (by simp) (by simp)
  rw [show ((0 : Nat) : Int) = 0 from rfl] at this
  rw [this]
  rfl
/-! ### comparisons -/
theorem loop_eq {α : Type} [BEq α] {xs ys : List α} (hl : xs.length = ys.length) {L : Nat → Int → Option (Ex Bool Unit)}
    (hs : ∀ k (i : Nat) x y, xs[i]? = some x → ys[i]? = some y → L (k + 1) (i : Int) = bif !(x == y) then some (.ret false) else L k ((i + 1 : Nat) : Int))
    (he : ∀ k, L (k + 1) (xs.length : Int) = some (.go ())) :
    ∀ m i k, i + m = xs.length → m < k → L k ((i : Nat) : Int) = some (bif xs.drop i == ys.drop i then .go () else .ret false) := by
  intro m
  induction m with
  | zero =>
    intro i k hi hk
    obtain ⟨k, rfl⟩ : ∃ q, k = q + 1 := ⟨k - 1, by omega⟩
    obtain rfl : i = xs.length := by omega
    rw [he, List.drop_length, hl, List.drop_length]
    rfl
  | succ m ih =>
    intro i k hi hk
    obtain ⟨k, rfl⟩ : ∃ q, k = q + 1 := ⟨k - 1, by omega⟩
    have hx := List.getElem?_eq_getElem (show i < xs.length by omega)
    have hy := List.getElem?_eq_getElem (show i < ys.length by omega)
    rw [hs k i _ _ hx hy, drop_cons hx, drop_cons hy, List.cons_beq_cons]
    cases xs[i] == ys[i]
    · rfl
    · rw [Bool.not_true, cond_false, Bool.true_and]
      exact ih (i + 1) k (by omega) (by omega)
theorem beq_len {α : Type} [BEq α] : ∀ {xs ys : List α}, xs.length ≠ ys.length → (xs == ys) = false
  | [], [], h => absurd rfl h
  | [], _ :: _, _ => rfl
  | _ :: _, [], _ => rfl
  | x :: xs, y :: ys, h => by
    rw [List.cons_beq_cons, beq_len (xs := xs) (ys := ys) (fun e => h (by simp [e])), Bool.and_false]
theorem eq_list {α : Type} [BEq α] {xs ys : List α} {L : Nat → Int → Option (Ex Bool Unit)} {fu : Nat} (hf : xs.length < fu)
    (hs : ∀ k (i : Nat) x y, xs.length = ys.length → xs[i]? = some x → ys[i]? = some y → L (k + 1) (i : Int) = bif !(x == y) then some (.ret false) else L k ((i + 1 : Nat) : Int))
    (he : ∀ k, L (k + 1) (xs.length : Int) = some (.go ())) :
    (bif ((xs.length : Int) != (ys.length : Int)) then some false else cl true (L fu (0 : Int)) fun rl => exM rl (fun r => some r) fun s => some true) = some (xs == ys) := by
  by_cases hl : xs.length = ys.length
  · have h1 : ((xs.length : Int) != (ys.length : Int)) = false := by simp [hl]
    have := loop_eq hl (fun k i x y => hs k i x y hl) he xs.length 0 fu (by omega) (by omega)
    rw [show ((0 : Nat) : Int) = 0 from rfl, List.drop_zero, List.drop_zero] at this
    rw [h1, cond_false, this, cl_true]
    cases xs == ys <;> rfl
  · have h1 : ((xs.length : Int) != (ys.length : Int)) = true := by simp; omega
    rw [h1, cond_true, beq_len hl]
/-! ### marks -/
def cW {α : Type} (c : α → Int) (xs : List α) : Int := (xs.map c).sum
theorem cW_cons {α : Type} {c : α → Int} {x : α} {xs : List α} : cW c (x :: xs) = c x + cW c xs := by simp [cW]
theorem cW_nonneg {α : Type} {c : α → Int} (hc : ∀ x, 0 ≤ c x) : ∀ xs : List α, 0 ≤ cW c xs
  | [] => Int.le_refl _
  | x :: xs => by rw [cW_cons]; have := hc x; have := cW_nonneg hc xs; omega
theorem cw_list {α : Type} {c : α → Int} {f : α → Nat} (h : ∀ x, c x ≤ 8 * (f x : Int) + 8) : ∀ xs : List α, cW c xs ≤ 8 * (wL f xs : Int)
  | [] => by simp [cW, wL]
  | x :: xs => by
    have h1 := cw_list h xs
    have h2 := h x
    rw [cW_cons]
    unfold wL at h1 ⊢
    simp only [List.length_cons, List.map_cons, List.sum_cons]
    omega
def mkW {α : Type} (f : α → Int → α) (c : α → Int) : List α → Int → List α
  | [], _ => []
  | x :: xs, k => f x k :: mkW f c xs (k + c x)
theorem mkW_length {α : Type} {f : α → Int → α} {c : α → Int} : ∀ {xs : List α} {k : Int}, (mkW f c xs k).length = xs.length
  | [], _ => rfl
  | x :: xs, k => by simp [mkW, mkW_length]
theorem loop_mk {α : Type} {f : α → Int → α} {c : α → Int} {Bd : α → Prop} {n : Nat} {lim : Int} {L : Nat → Int → Int → List α → Option (Int × List α)} (hc : ∀ x, 0 ≤ c x)
    (hs : ∀ k y (i : Nat) ys x, i < n → ys.length = n → ys[i]? = some x → 0 < y → y + c x ≤ lim → Bd x → L (k + 1) y (i : Int) ys = L k (y + c x) ((i + 1 : Nat) : Int) (ys.set i (f x y)))
    (he : ∀ k y ys, ys.length = n → L (k + 1) y (n : Int) ys = some (y, ys)) :
    ∀ m i k y ys, i + m = n → m < k → ys.length = n → 0 < y → y + cW c (ys.drop i) ≤ lim → (∀ x ∈ ys.drop i, Bd x) → L k y ((i : Nat) : Int) ys = some (y + cW c (ys.drop i), ys.take i ++ mkW f c (ys.drop i) y) := by
  intro m
  induction m with
  | zero =>
    intro i k y ys hi hk hl h0 h1 hb
    obtain ⟨k, rfl⟩ : ∃ q, k = q + 1 := ⟨k - 1, by omega⟩
    obtain rfl : i = n := by omega
    rw [he k y ys hl, List.drop_of_length_le (by omega), List.take_of_length_le (by omega)]
    simp [cW, mkW]
  | succ m ih =>
    intro i k y ys hi hk hl h0 h1 hb
    obtain ⟨k, rfl⟩ : ∃ q, k = q + 1 := ⟨k - 1, by omega⟩
    have hlt : i < ys.length := by omega
    have hx := List.getElem?_eq_getElem hlt
    rw [drop_cons hx] at h1 hb ⊢
    rw [cW_cons] at h1 ⊢
    have hc1 := hc ys[i]
    have hc2 := cW_nonneg hc (ys.drop (i + 1))
    have hd : (ys.set i (f ys[i] y)).drop (i + 1) = ys.drop (i + 1) := List.drop_set_of_lt (by omega)
    have ht : (ys.set i (f ys[i] y)).take (i + 1) = ys.take i ++ [f ys[i] y] := by
      rw [List.take_add_one, List.take_set_of_le (Nat.le_refl _), List.getElem?_set_self hlt]
      rfl
    rw [hs k y i ys _ (by omega) hl hx h0 (by omega) (hb _ (List.mem_cons_self ..)), ih (i + 1) k _ _ (by omega) (by omega) (by rw [List.length_set]; exact hl) (by omega) (by rw [hd]; omega) (by rw [hd]; exact fun x hx => hb x (List.mem_cons_of_mem _ hx)), hd, ht, mkW, List.append_assoc, Int.add_assoc]
    rfl
theorem mark_list {α : Type} {f : α → Int → α} {c : α → Int} {Bd : α → Prop} {lim : Int} {L : Nat → Int → Int → List α → Option (Int × List α)} {xs : List α} {k : Int} {fu : Nat} (hc : ∀ x, 0 ≤ c x) (hf : xs.length < fu) (hk : 0 < k) (h1 : k + cW c xs ≤ lim) (hb : ∀ x ∈ xs, Bd x)
    (hs : ∀ k y (i : Nat) ys x, i < xs.length → ys.length = xs.length → ys[i]? = some x → 0 < y → y + c x ≤ lim → Bd x → L (k + 1) y (i : Int) ys = L k (y + c x) ((i + 1 : Nat) : Int) (ys.set i (f x y)))
    (he : ∀ k y ys, ys.length = xs.length → L (k + 1) y (xs.length : Int) ys = some (y, ys)) :
    (cl true (L fu k (0 : Int) xs) fun s => some (s.1, s.2)) = some (k + cW c xs, mkW f c xs k) := by
  have := loop_mk hc hs he xs.length 0 fu k xs (by omega) (by omega) rfl hk (by rw [List.drop_zero]; exact h1) (by rw [List.drop_zero]; exact hb)
  rw [show ((0 : Nat) : Int) = 0 from rfl, List.drop_zero] at this
  rw [this]
  rfl
theorem mkW_head {α : Type} {f : α → Int → α} {c : α → Int} {zs : List α} {i : Nat} {x : α} {xs : List α} {k : Int} (h : zs.drop i = mkW f c (x :: xs) k) : zs[i]? = some (f x k) ∧ zs.drop (i + 1) = mkW f c xs (k + c x) := by
  have h1 : (zs.drop i)[0]? = some (f x k) := by rw [h]; rfl
  rw [List.getElem?_drop, Nat.add_zero] at h1
  refine ⟨h1, ?_⟩
  have h2 := drop_cons h1
  rw [h] at h2
  injection h2 with _ h2
  exact h2.symm
theorem loop_hd {α : Type} {f : α → Int → α} {c : α → Int} {Bd : α → Prop} {zs : List α} {lim : Int} {L : Nat → Int → Int → Option (Ex Int Int)} (hc : ∀ x, 0 ≤ c x)
    (hs : ∀ k y (i : Nat) x, zs[i]? = some (f x y) → 0 < y → y + c x ≤ lim → Bd x → L (k + 1) y (i : Int) = L k (y + c x) ((i + 1 : Nat) : Int))
    (he : ∀ k y, L (k + 1) y (zs.length : Int) = some (.go y)) :
    ∀ xs i k y, i + xs.length = zs.length → xs.length < k → 0 < y → y + cW c xs ≤ lim → (∀ x ∈ xs, Bd x) → zs.drop i = mkW f c xs y → L k y ((i : Nat) : Int) = some (.go (y + cW c xs)) := by
  intro xs
  induction xs with
  | nil =>
    intro i k y hi hk h0 h1 hb hz
    obtain ⟨k, rfl⟩ : ∃ q, k = q + 1 := ⟨k - 1, by omega⟩
    obtain rfl : i = zs.length := by simpa using hi
    rw [he]
    simp [cW]
  | cons x xs ih =>
    intro i k y hi hk h0 h1 hb hz
    obtain ⟨k, rfl⟩ : ∃ q, k = q + 1 := ⟨k - 1, by omega⟩
    obtain ⟨hx, hz'⟩ := mkW_head hz
    rw [cW_cons] at h1 ⊢
    simp only [List.length_cons] at hi hk
    have hc1 := hc x
    have hc2 := cW_nonneg hc xs
    rw [hs k y i x hx h0 (by omega) (hb _ (List.mem_cons_self ..)), ih (i + 1) k _ (by omega) (by omega) (by omega) (by omega) (fun x hx => hb x (List.mem_cons_of_mem _ hx)) hz', Int.add_assoc]
theorem held_list {α : Type} {f : α → Int → α} {c : α → Int} {Bd : α → Prop} {lim : Int} {L : Nat → Int → Int → Option (Ex Int Int)} {xs zs : List α} {k : Int} {fu : Nat} (hz : zs = mkW f c xs k) (hc : ∀ x, 0 ≤ c x) (hf : xs.length < fu) (hk : 0 < k) (h1 : k + cW c xs ≤ lim) (hb : ∀ x ∈ xs, Bd x)
    (hs : ∀ k y (i : Nat) x, zs[i]? = some (f x y) → 0 < y → y + c x ≤ lim → Bd x → L (k + 1) y (i : Int) = L k (y + c x) ((i + 1 : Nat) : Int))
    (he : ∀ k y, L (k + 1) y (zs.length : Int) = some (.go y)) :
    (cl true (L fu k (0 : Int)) fun rl => exM rl (fun r => some r) fun s => some s) = some (k + cW c xs) := by
  have := loop_hd hc hs he xs 0 fu k (by rw [hz, mkW_length]; omega) (by omega) hk h1 hb (by rw [List.drop_zero]; exact hz)
  rw [show ((0 : Nat) : Int) = 0 from rfl] at this
  rw [this]
  rfl
end Go.Proofs.Ytmgiijdejigdhaa
