/- More small lemmas on rows of memory, over any program: rows of several cells an element. No statement of the seat is proved here. -/
import Derived.Test.YtjfhlhhobpdneaaBase
namespace Go.Proofs.Ytjfhlhhobpdneaa
open Go.RowKit

theorem flatMap_len {α : Type} {k : Nat} {enc : α → List Value} (he : ∀ x, (enc x).length = k) : ∀ l : List α, (l.flatMap enc).length = l.length * k
  | [] => by simp
  | x :: l => by rw [List.flatMap_cons, List.length_append, flatMap_len he l, he, List.length_cons, Nat.add_mul, Nat.one_mul, Nat.add_comm]
theorem flatMap_at {α : Type} {k : Nat} {enc : α → List Value} (he : ∀ x, (enc x).length = k) : ∀ (l : List α) (i j : Nat), j < k → (l.flatMap enc)[i * k + j]? = (l[i]?).bind fun x => (enc x)[j]?
  | [], i, j, hj => by simp
  | x :: l, 0, j, hj => by
    rw [List.flatMap_cons, Nat.zero_mul, Nat.zero_add, List.getElem?_append_left (by rw [he]; exact hj)]
    rfl
  | x :: l, i + 1, j, hj => by
    rw [List.flatMap_cons, List.getElem?_append_right (by rw [he, Nat.add_mul]; omega), he]
    have : (i + 1) * k + j - k = i * k + j := by rw [Nat.add_mul]; omega
    rw [this, flatMap_at he l i j hj]
    rfl
theorem get_some {cs : Array Value} {i : Nat} (h : i < cs.size) : ∃ o, cs[i]? = some o := ⟨_, Array.getElem?_eq_getElem h⟩
/-- the first m cells of cs are those of xs -/
def Filled (cs : Array Value) (m : Nat) (xs : List Value) : Prop := ∀ j, j < m → cs[j]? = xs[j]?
theorem Filled.none_ {cs : Array Value} {xs : List Value} : Filled cs 0 xs := fun j hj => absurd hj (by omega)
theorem Filled.put {cs : Array Value} {m : Nat} {xs : List Value} {u : Value} (h : Filled cs m xs) (hm : m < cs.size) (hu : xs[m]? = some u) : Filled (cs.setIfInBounds m u) (m + 1) xs := fun j hj => by
  by_cases e : j = m
  · subst e
    rw [Array.getElem?_setIfInBounds_self_of_lt hm, hu]
  · rw [Array.getElem?_setIfInBounds_ne (by omega)]
    exact h j (by omega)
theorem Filled.whole {cs : Array Value} {m : Nat} {xs : List Value} (h : Filled cs m xs) (hc : cs.size = m) (hx : xs.length = m) : cs = xs.toArray := by
  apply Array.ext_getElem?
  intro j
  by_cases hj : j < m
  · rw [h j hj]
    simp
  · rw [Array.getElem?_eq_none (by omega), Array.getElem?_eq_none (by simp; omega)]
theorem rd_whole {w : World} {g B sz n : Nat} {t : TypeId} {xs : List Value} (h : Blk w g t xs.toArray) (hl : xs.length = n * sz) (hg : g < B) : Rd w B sz (some ⟨g, 0, none⟩) n xs :=
  Rd.of_blk h hg (by rw [← hl]; simp) (by rw [← hl]; simp)
theorem Rd.drew1 {w : World} {sz n : Nat} {A : Option Addr} {xs : List Value} (h : Rd w w.heap.size sz A n xs) : Rd w.drew w.drew.heap.size sz A n xs := h
/-- strings, as the walk compares them -/
theorem str_inj {a b : ByteArray} (h : a.toList = b.toList) : a = b := by
  rw [ByteArray.toList_eq, ByteArray.toList_eq] at h
  exact ByteArray.ext (Array.toList_inj.mp h)
theorem str_ne {a b : ByteArray} (h : a ≠ b) : (a.toList == b.toList) = false := by
  rw [beq_eq_false_iff_ne]
  exact fun e => h (str_inj e)
def sLt (a b : ByteArray) : Bool := Op.bytesLess a.toList b.toList
end Go.Proofs.Ytjfhlhhobpdneaa
