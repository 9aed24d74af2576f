/- Sorting a row of our own, over the library's laid contracts: what is alike. No statement of the seat is proved here. -/
import Derived.Test.YtkebpojbbfnehaaGreatTy
import Derived.Shelf.Slices.In.SortNone
import Derived.Shelf.SlSortCmp.NoneTotal
import Derived.Shelf.Small.Strs
import Derived.Shelf.Sort.Plain
namespace Go.Proofs.YtkebpojbbfnehaaGreat
open Go.RowKit Go.Sort
set_option linter.unusedVariables false

theorem fr_grow {w w' : World} (h : Fr w w') : ∃ q os, w' = grow (w.drewN q) os := by
  refine ⟨w'.drawn - w.drawn, w'.heap.extract w.heap.size w'.heap.size, ?_⟩
  have hh : w'.heap = w.heap ++ w'.heap.extract w.heap.size w'.heap.size := by
    apply Array.ext_getElem?
    intro k
    by_cases hk : k < w.heap.size
    · rw [Array.getElem?_append_left hk]
      exact h.block k hk
    · rw [Array.getElem?_append_right (by omega), Array.getElem?_extract]
      split
      · congr 1
        omega
      · exact Array.getElem?_eq_none (by have := h.size; omega)
  have hd : w'.drawn = w.drawn + (w'.drawn - w.drawn) := by have := h.drawn trivial; omega
  have h1 := h.os
  have h2 := h.tape
  have h3 := h.output
  obtain ⟨a1, a2, a3, a4, a5⟩ := w
  obtain ⟨b1, b2, b3, b4, b5⟩ := w'
  simp only [World.drewN, grow] at *
  subst h1 h2 h3
  rw [← hh, ← hd]
section
variable {α β : Type} [Inhabited β]
theorem putRow_ch {enc : β → Value} {w : World} {blk n : Nat} {d : Array β} {os : Array Obj} {u : Value} (hu : ownsB u blk) : Ch (ownsB u) w (grow (putRow enc (Go.Sort.ahead w n) blk 0 d) os) := by
  refine ⟨rfl, rfl, rfl, ?_, fun k hk hn => ?_, ?_⟩
  · simp [grow, putRow, mapBlock, Go.Sort.ahead]
  · have hne : blk ≠ k := fun e => hn (e ▸ hu)
    simp only [grow, putRow, mapBlock, Go.Sort.ahead]
    rw [Array.getElem?_append_left (by simpa using hk), Array.getElem?_modify, if_neg hne]
  · intro _; simp [grow, putRow, mapBlock, Go.Sort.ahead]
/-- a row of one cell an element, the library's way -/
theorem vec_holds {E : Enc α} {enc : β → Value} {f : β → α} {A : Av} {B T blk cap : Nat} {w : World} {xs : List α} {d : Array β} (hs : E.size = 1) (henc : ∀ (b : β) A w cs, E.rep A w (f b) cs → cs = [enc b]) (hd : d.toList.map f = xs) (h : Vec E A B T w (.slice (some ⟨blk, 0, none⟩) xs.length cap) xs) : Holds enc w blk 0 d := by
  obtain ⟨cs, hown, hf⟩ := h
  intro j hj
  have hlen : d.size = xs.length := by rw [← hd]; simp
  have hx : xs[j]? = some (f d[j]!) := by
    rw [← hd, List.getElem?_map]
    simp [hj]
  obtain ⟨ds, h1, h2⟩ := hf.2 j _ hx
  have h3 := henc _ _ _ _ h1
  subst h3
  have h4 := h2 0 _ rfl
  rw [hs, Nat.mul_one, Nat.add_zero] at h4
  refine ⟨?_, ?_⟩
  · have := hown.cells (g := blk) rfl j _ h4
    rwa [addr_add] at this
  · rcases hown.2 with ⟨e, _⟩ | ⟨g, cap', cur, e, hb, hg, _⟩
    · cases e
    · injection e with e1 e2 e3
      injection e1 with e1
      injection e1 with e1
      subst e1
      simp [World.frozen?, hg]
theorem vec_put {E : Enc α} {enc : β → Value} {f : β → α} {A : Av} {B T blk cap n : Nat} {w : World} {xs ys : List α} {d : Array β} {os : Array Obj} (hs : E.size = 1) (henc : ∀ (b : β) A w cs, E.rep A w (f b) cs → cs = [enc b])
    (hrep : ∀ A w A' w' x cs, E.rep A w x cs → E.rep A' w' x cs) (hd : d.toList.map f = ys) (hl : ys.length = xs.length) (hsub : ∀ y ∈ ys, y ∈ xs) (h : Vec E A B T w (.slice (some ⟨blk, 0, none⟩) xs.length cap) xs) :
    Vec E A B T (grow (putRow enc (Go.Sort.ahead w n) blk 0 d) os) (.slice (some ⟨blk, 0, none⟩) xs.length cap) ys := by
  obtain ⟨cs, hown, hf⟩ := h
  have hrow : ∀ y ∈ ys, ∃ b : β, f b = y ∧ ∀ A w, E.rep A w y [enc b] := by
    intro y hy
    obtain ⟨b, hb, rfl⟩ := List.mem_map.1 (hd ▸ hy)
    obtain ⟨i, hi⟩ := List.mem_iff_getElem?.1 (hsub _ hy)
    obtain ⟨ds, h1, h2⟩ := hf.2 i _ hi
    have h3 := henc _ _ _ _ h1
    subst h3
    exact ⟨b, rfl, fun A' w' => hrep _ _ _ _ _ _ h1⟩
  rcases hown.2 with ⟨e, _⟩ | ⟨g, cap', cur, e, hb, hg, hnc, hcm, hcs, htk⟩
  · cases e
  · injection e with e1 e2 e3
    injection e1 with e1
    injection e1 with e1
    subst e1 e3
    have hds : d.size = ys.length := by rw [← hd]; simp
    have hcur : ∀ j, j < ys.length → (putCells enc 0 d cur)[j]? = some (enc d[j]!) := fun j hj => by
      have hjc : j < cur.size := by rw [hcs, hs]; omega
      simp only [putCells, Array.getElem?_mapIdx]
      rw [Array.getElem?_eq_getElem hjc]
      simp [hds, hj]
    have hlay : (putCells enc 0 d cur).toList.take (ys.length * E.size) = d.toList.map enc := by
      rw [hs, Nat.mul_one]
      apply List.ext_getElem?
      intro j
      by_cases hj : j < ys.length
      · rw [List.getElem?_take, if_pos hj, Array.getElem?_toList, hcur j hj, List.getElem?_map]
        simp [hds, hj]
      · rw [List.getElem?_take, if_neg hj, List.getElem?_eq_none (by simp [hds]; omega)]
    refine ⟨d.toList.map enc, ⟨by simp [hds, hs], .inr ⟨blk, cap, putCells enc 0 d cur, by rw [hl], hb, ?_, by rw [hl]; exact hnc, hcm, by simp [putCells, hcs], hlay⟩⟩, by simp [hds, hs], fun i y hy => ?_⟩
    · have hlt := (Array.getElem?_eq_some_iff.1 hg).1
      simp only [grow, putRow, mapBlock, Go.Sort.ahead]
      rw [Array.getElem?_append_left (by simpa using hlt), Array.getElem?_modify, if_pos rfl, hg]
      rfl
    · obtain ⟨b, hb', hr⟩ := hrow y (List.mem_of_getElem? hy)
      have hiy : i < ys.length := (List.getElem?_eq_some_iff.1 hy).1
      have hfd : f d[i]! = y := by
        rw [← hd, List.getElem?_map] at hy
        simp [hds, hiy] at hy
        simpa [hds, hiy] using hy
      have h1 := hr A (grow (putRow enc (Go.Sort.ahead w n) blk 0 d) os)
      have h2 := henc d[i]! A w _ (hfd ▸ hr A w)
      injection h2 with h2
      refine ⟨[enc b], h1, fun j u hj => ?_⟩
      cases j with
      | zero =>
        simp at hj
        subst hj
        rw [hs, Nat.mul_one, Nat.add_zero, List.getElem?_map, h2]
        simp [hds, hiy]
      | succ j => simp at hj
/-- the row of a value -/
theorem vec_cases {E : Enc α} {A : Av} {B T : Nat} {w : World} {u : Value} {xs : List α} (h : Vec E A B T w u xs) : (u = .slice none 0 0 ∧ xs = []) ∨ ∃ blk cap, u = .slice (some ⟨blk, 0, none⟩) xs.length cap ∧ blk < w.heap.size := by
  obtain ⟨cs, hown, _⟩ := h
  rcases hown.2 with ⟨e, h0⟩ | ⟨g, cap, cur, e, _, hg, _⟩
  · exact .inl ⟨e, List.eq_nil_of_length_eq_zero h0⟩
  · exact .inr ⟨g, cap, e, (Array.getElem?_eq_some_iff.1 hg).1⟩
end
/-- F orders the elements of xs, no two of which are alike -/
def sortOK {α : Type} [BEq α] (F : α → α → Option Int) (xs : List α) : Bool :=
  xs.all fun x => xs.all fun y => (F x y).isSome && !(decide (gv (F x x) < 0)) && (decide (gv (F x y) < 0) || decide (gv (F y x) < 0) || x == y) &&
    xs.all fun z => (!(decide (gv (F x y) < 0)) || !(decide (gv (F y z) < 0)) || decide (gv (F x z) < 0)) && (decide (gv (F x y) < 0) || decide (gv (F y z) < 0) || !(decide (gv (F x z) < 0)))
def M_sortF {α : Type} [BEq α] (fu : Nat) (p0 : List α) (p1 : α → α → Option Int) : Option (List α) := ck (lenOK p0.length) (ck (sortOK p1 p0) (some (p0.mergeSort fun x y => !(decide (gv (p1 y x) < 0)))))
theorem callsV_inj {f f' : FuncId} {c c' : List Value} (h : (Value.func (.func f) #[] c.toArray) = .func (.func f') #[] c'.toArray) : f = f' ∧ c = c' := by
  injection h with h1 h2 h3
  injection h1 with h1
  exact ⟨h1, by simpa using h3⟩
end Go.Proofs.YtkebpojbbfnehaaGreat
