/- Slices whose elements hold slices: a header row, and behind each header a row of its own. Over any program. -/
import Derived.Test.YtjfhlhhobpdneaaMem
import Derived.Test.YtjfhlhhobpdneaaRep
namespace Go.Proofs.Ytjfhlhhobpdneaa
open Go.RowKit

/-- slice headers as cells -/
def chd (hs : List (Option Addr × Nat × Nat)) : List Value := hs.map fun h => Value.slice h.1 h.2.1 h.2.2
/-- the slice (A, n) of slices reads as the lists ls; k cells an element of the inner ones, enc: their cells -/
def Nst {α : Type} (k : Nat) (enc : List α → List Value) (w : World) (B : Nat) (A : Option Addr) (n : Nat) (ls : List (List α)) : Prop :=
  ∃ hs, Rd w B 1 A n (chd hs) ∧ ls.length = n ∧ ∀ i, i < n → ∃ h l, hs[i]? = some h ∧ ls[i]? = some l ∧ Rd w B k h.1 h.2.1 (enc l)
section
variable {α : Type} {k : Nat} {enc : List α → List Value} {w w' : World} {B B' : Nat} {A : Option Addr} {n : Nat} {ls : List (List α)}
theorem Nst.len (h : Nst k enc w B A n ls) : ls.length = n := by
  obtain ⟨_, _, h2, _⟩ := h
  exact h2
theorem Nst.below (h : Nst k enc w B A n ls) (hb : Below B w w') : Nst k enc w' B A n ls := by
  obtain ⟨hs, h1, h2, h3⟩ := h
  refine ⟨hs, h1.below hb, h2, fun i hi => ?_⟩
  obtain ⟨hd, l, e1, e2, e3⟩ := h3 i hi
  exact ⟨hd, l, e1, e2, e3.below hb⟩
theorem Nst.more (h : Nst k enc w B A n ls) (hB : B ≤ B') : Nst k enc w B' A n ls := by
  obtain ⟨hs, h1, h2, h3⟩ := h
  refine ⟨hs, h1.more hB, h2, fun i hi => ?_⟩
  obtain ⟨hd, l, e1, e2, e3⟩ := h3 i hi
  exact ⟨hd, l, e1, e2, e3.more hB⟩
theorem Nst.drew1 (h : Nst k enc w w.heap.size A n ls) : Nst k enc w.drew w.drew.heap.size A n ls := h
theorem Nst.drewN (h : Nst k enc w B A n ls) (d : Nat) : Nst k enc (w.drewN d) B A n ls := h
/-- the elements: each is a header cell, and the row behind it -/
theorem Nst.cells (h : Nst k enc w B A n ls) : 0 < n → ∃ b off, A = some ⟨b, off, none⟩ ∧ b < B ∧ ∀ i, i < n → ∃ A' n' c', w.cell? ⟨b, off + i, none⟩ = some (.slice A' n' c') ∧ Rd w B k A' n' (enc (ls.getD i [])) := by
  intro hn
  obtain ⟨hs, h1, h2, h3⟩ := h
  obtain ⟨b, off, rfl, hb, hc⟩ := h1.2 hn
  refine ⟨b, off, rfl, hb, fun i hi => ?_⟩
  obtain ⟨hd, l, e1, e2, e3⟩ := h3 i hi
  refine ⟨hd.1, hd.2.1, hd.2.2, hc i _ (by rw [chd, List.getElem?_map, e1]; rfl), ?_⟩
  rw [List.getD_eq_getElem?_getD, e2]
  exact e3
end
/-- headers that lie in one block, each leading to a row: the way such a slice is made -/
theorem Nst.of_blk {α : Type} {k : Nat} {enc : List α → List Value} {w : World} {g B : Nat} {t : TypeId} {cs : Array Value} {n : Nat} {ls : List (List α)} (hg : Blk w g t cs) (hB : g < B) (hc : cs.size = n) (hl : ls.length = n)
    (h : ∀ i, i < n → ∃ A' n' c', cs[i]? = some (.slice A' n' c') ∧ Rd w B k A' n' (enc (ls.getD i []))) : Nst k enc w B (some ⟨g, 0, none⟩) n ls := by
  obtain ⟨es, hs, h1, h2, h3⟩ := choose_rows (α := Option Addr × Nat × Nat) n (fun i cs' hd => cs' = [] ∧ cs[i]? = some (.slice hd.1 hd.2.1 hd.2.2) ∧ Rd w B k hd.1 hd.2.1 (enc (ls.getD i []))) fun i hi => by
    obtain ⟨A', n', c', e1, e2⟩ := h i hi
    exact ⟨[], (A', n', c'), rfl, e1, e2⟩
  have e : cs = (chd hs).toArray := by
    apply Array.ext_getElem?
    intro j
    by_cases hj : j < n
    · have h4 := h3 j hs[j] (es[j]'(by omega)) (List.getElem?_eq_getElem (by omega)) (List.getElem?_eq_getElem (by omega))
      rw [h4.2.1]
      simp [chd, show j < hs.length by omega]
    · rw [Array.getElem?_eq_none (by omega), Array.getElem?_eq_none (by simp [chd]; omega)]
  subst e
  refine ⟨hs, rd_whole hg (by simp [chd, h2]) hB, hl, fun i hi => ?_⟩
  have h4 := h3 i hs[i] (es[i]'(by omega)) (List.getElem?_eq_getElem (by omega)) (List.getElem?_eq_getElem (by omega))
  refine ⟨hs[i], ls[i]'(by omega), List.getElem?_eq_getElem (by omega), List.getElem?_eq_getElem (by omega), ?_⟩
  have := h4.2.2
  rwa [List.getD_eq_getElem?_getD, List.getElem?_eq_getElem (by omega), Option.getD_some] at this
theorem flat1 : ∀ hs : List (Option Addr × Nat × Nat), (hs.map fun h => [Value.slice h.1 h.2.1 h.2.2]).flatten = chd hs
  | [] => rfl
  | h :: t => by
    rw [List.map_cons, List.flatten_cons, flat1 t]
    rfl
/-- off the form's reading: a slice of structs of one field that is a slice -/
theorem slR_nest {α : Type} {k : Nat} {R : Rel α} (enc : List α → List Value) {w : World} {B : Nat} {A : Option Addr} {n c : Nat} {ls : List (List α)} (h : slR 1 (st1R (slR k R)) w B ls [.slice A n c])
    (hin : ∀ A' n' c' l, slR k R w B l [.slice A' n' c'] → Rd w B k A' n' (enc l) ∧ n' ≤ maxLen) :
    Nst k enc w B A n ls ∧ n ≤ maxLen ∧ ∀ l ∈ ls, l.length ≤ maxLen := by
  have hm := slR_le h
  obtain ⟨A', n', c', es, e, hn, hc, _, hl, hr, hx⟩ := h
  simp only [List.cons.injEq, Value.slice.injEq, and_true] at e
  obtain ⟨rfl, rfl, rfl⟩ := e
  have hall : ∀ (i : Nat) l e, ls[i]? = some l → es[i]? = some e → ∃ A' n' c', e = [.slice A' n' c'] ∧ slR k R w B l [.slice A' n' c'] := fun i l e h1 h2 => by
    obtain ⟨_, v, rfl, hv⟩ := hx i l e h1 h2
    have hv' := hv
    obtain ⟨A', n', c', es', e', _⟩ := hv'
    simp only [List.cons.injEq, and_true] at e'
    subst e'
    exact ⟨A', n', c', rfl, hv⟩
  obtain ⟨es2, hs, g1, g2, g3⟩ := choose_rows (α := Option Addr × Nat × Nat) n (fun i cs' hd => es[i]? = some [.slice hd.1 hd.2.1 hd.2.2] ∧ slR k R w B (ls.getD i []) [.slice hd.1 hd.2.1 hd.2.2]) fun i hi => by
    obtain ⟨A', n', c', e1, e2⟩ := hall i ls[i] (es[i]'(by omega)) (List.getElem?_eq_getElem (by omega)) (List.getElem?_eq_getElem (by omega))
    refine ⟨[], (A', n', c'), by rw [List.getElem?_eq_getElem (by omega), e1], ?_⟩
    rw [List.getD_eq_getElem?_getD, List.getElem?_eq_getElem (by omega), Option.getD_some]
    exact e2
  have key : ∀ i (hi : i < n), es[i]? = some [.slice (hs[i]'(by omega)).1 (hs[i]'(by omega)).2.1 (hs[i]'(by omega)).2.2] ∧ slR k R w B (ls.getD i []) [.slice (hs[i]'(by omega)).1 (hs[i]'(by omega)).2.1 (hs[i]'(by omega)).2.2] := fun i hi =>
    g3 i _ (es2[i]'(by omega)) (List.getElem?_eq_getElem (by omega)) (List.getElem?_eq_getElem (by omega))
  have ef : es.flatten = chd hs := by
    have : es = hs.map fun h => [Value.slice h.1 h.2.1 h.2.2] := by
      apply List.ext_getElem?
      intro i
      by_cases hi : i < n
      · rw [(key i hi).1, List.getElem?_map, List.getElem?_eq_getElem (by omega)]
        rfl
      · rw [List.getElem?_eq_none (by omega), List.getElem?_eq_none (by simp; omega)]
    rw [this, flat1]
  rw [ef] at hr
  refine ⟨⟨hs, hr, hn.symm, fun i hi => ⟨hs[i]'(by omega), ls[i]'(by omega), List.getElem?_eq_getElem (by omega), List.getElem?_eq_getElem (by omega), ?_⟩⟩, hm, fun l hl' => ?_⟩
  · have := (hin _ _ _ _ (key i hi).2).1
    rwa [List.getD_eq_getElem?_getD, List.getElem?_eq_getElem (by omega), Option.getD_some] at this
  · obtain ⟨i, hi, rfl⟩ := List.getElem_of_mem hl'
    obtain ⟨A2, n2, c2, _, e2, hn2, _⟩ := (key i (by omega)).2
    have h5 := (hin _ _ _ _ (key i (by omega)).2).2
    simp only [List.cons.injEq, Value.slice.injEq, and_true] at e2
    rw [List.getD_eq_getElem?_getD, List.getElem?_eq_getElem hi, Option.getD_some] at hn2
    omega
end Go.Proofs.Ytjfhlhhobpdneaa
