/- Sorting a row of our own, over the library's laid contracts: what is alike. No statement of the seat is proved here. -/
import Derived.Test.YtmkgocdgkdglnaaTy
import Derived.Shelf.Slices.In.SortNone
import Derived.Shelf.SlSortCmp.NoneTotal
import Derived.Shelf.Small.Strs
import Derived.Shelf.Sort.Plain
namespace Go.Proofs.Ytmkgocdgkdglnaa
open Go.RowKit Go.Sort
set_option linter.unusedVariables false

section
variable {α β : Type} [Inhabited β]
theorem putRow_ch {enc : β → Value} {w : World} {blk n : Nat} {d : Array β} {os : Array Obj} {u : Value} (hu : ownsB u blk) : Ch (ownsB u) w (grow (putRow enc (Go.Sort.ahead w n) blk 0 d) os) := by
  refine ⟨rfl, rfl, rfl, ?_, fun k hk hn => ?_, ?_⟩
  · simp [grow, putRow, mapBlock, Go.Sort.ahead]
  · have hne : blk ≠ k := fun e => hn (e ▸ hu)
    simp only [grow, putRow, mapBlock, Go.Sort.ahead]
    rw [Array.getElem?_append_left (by simpa using hk), Array.getElem?_modify, if_neg hne]
  · intro _; simp [grow, putRow, mapBlock, Go.Sort.ahead]
theorem BlkM.putRw {enc : β → Value} {w : World} {g n : Nat} {T : TypeId} {cur : Array Value} {d : Array β} {os : Array Obj} (h : BlkM w g T cur) : BlkM (grow (putRow enc (Go.Sort.ahead w n) g 0 d) os) g T (putCells enc 0 d cur) := by
  obtain ⟨fz, h1, h2⟩ := h
  refine ⟨fz, ?_, by simpa [putCells] using h2⟩
  have hlt := (Array.getElem?_eq_some_iff.1 h1).1
  simp only [grow, putRow, mapBlock, Go.Sort.ahead]
  rw [Array.getElem?_append_left (by simpa using hlt), Array.getElem?_modify, if_pos rfl, h1]
  rfl
/-- a row of one cell an element, the library's way -/
theorem vec_holds {E : Enc α} {enc : β → Value} {f : β → α} {A : Av} {B T blk cap : Nat} {w : World} {xs : List α} {d : Array β} (hs : E.size = 1) (henc : ∀ (b : β) A w cs, E.rep A w (f b) cs → cs = [enc b]) (hd : d.toList.map f = xs) (h : Vec E A B T w (.slice (some ⟨blk, 0, none⟩) xs.length cap) xs) : Holds enc w blk 0 d := by
  obtain ⟨cs, hown, hf⟩ := h
  intro j hj
  have hlen : d.size = xs.length := by rw [← hd]; simp
  have hx : xs[j]? = some (f d[j]!) := by
    rw [← hd, List.getElem?_map]
    simp [hj]
  obtain ⟨ds, h1, h2⟩ := hf.2 j _ hx
  have h3 := henc _ _ _ _ h1
  subst h3
  have h4 := h2 0 _ rfl
  rw [hs, Nat.mul_one, Nat.add_zero] at h4
  refine ⟨?_, ?_⟩
  · have := hown.cells (g := blk) rfl j _ h4
    rwa [addr_add] at this
  · rcases hown.2 with ⟨e, _⟩ | ⟨g, cap', cur, e, hb, hg, hnc, _, hcs, _⟩
    · cases e
    · injection e with e1 e2 e3
      injection e1 with e1
      injection e1 with e1
      subst e1
      rw [Nat.zero_add]
      exact hg.frozen j (by rw [hcs, hs]; omega)
theorem vec_put {E : Enc α} {enc : β → Value} {f : β → α} {A : Av} {B T blk cap n : Nat} {w : World} {xs ys : List α} {d : Array β} {os : Array Obj} (hs : E.size = 1) (henc : ∀ (b : β) A w cs, E.rep A w (f b) cs → cs = [enc b])
    (hrep : ∀ A w A' w' x cs, E.rep A w x cs → E.rep A' w' x cs) (hd : d.toList.map f = ys) (hl : ys.length = xs.length) (hsub : ∀ y ∈ ys, y ∈ xs) (h : Vec E A B T w (.slice (some ⟨blk, 0, none⟩) xs.length cap) xs) :
    Vec E A B T (grow (putRow enc (Go.Sort.ahead w n) blk 0 d) os) (.slice (some ⟨blk, 0, none⟩) xs.length cap) ys := by
  obtain ⟨cs, hown, hf⟩ := h
  have hrow : ∀ y ∈ ys, ∃ b : β, f b = y ∧ ∀ A w, E.rep A w y [enc b] := by
    intro y hy
    obtain ⟨b, hb, rfl⟩ := List.mem_map.1 (hd ▸ hy)
    obtain ⟨i, hi⟩ := List.mem_iff_getElem?.1 (hsub _ hy)
    obtain ⟨ds, h1, h2⟩ := hf.2 i _ hi
    have h3 := henc _ _ _ _ h1
    subst h3
    exact ⟨b, rfl, fun A' w' => hrep _ _ _ _ _ _ h1⟩
  rcases hown.2 with ⟨e, _⟩ | ⟨g, cap', cur, e, hb, hg, hnc, hcm, hcs, htk⟩
  · cases e
  · injection e with e1 e2 e3
    injection e1 with e1
    injection e1 with e1
    subst e1 e3
    have hds : d.size = ys.length := by rw [← hd]; simp
    have hcur : ∀ j, j < ys.length → (putCells enc 0 d cur)[j]? = some (enc d[j]!) := fun j hj => by
      have hjc : j < cur.size := by rw [hcs, hs]; omega
      simp only [putCells, Array.getElem?_mapIdx]
      rw [Array.getElem?_eq_getElem hjc]
      simp [hds, hj]
    have hlay : (putCells enc 0 d cur).toList.take (ys.length * E.size) = d.toList.map enc := by
      rw [hs, Nat.mul_one]
      apply List.ext_getElem?
      intro j
      by_cases hj : j < ys.length
      · rw [List.getElem?_take, if_pos hj, Array.getElem?_toList, hcur j hj, List.getElem?_map]
        simp [hds, hj]
      · rw [List.getElem?_take, if_neg hj, List.getElem?_eq_none (by simp [hds]; omega)]
    refine ⟨d.toList.map enc, ⟨by simp [hds, hs], .inr ⟨blk, cap, putCells enc 0 d cur, by rw [hl], hb, hg.putRw, by rw [hl]; exact hnc, hcm, by simp [putCells, hcs], hlay⟩⟩, by simp [hds, hs], fun i y hy => ?_⟩
    · obtain ⟨b, hb', hr⟩ := hrow y (List.mem_of_getElem? hy)
      have hiy : i < ys.length := (List.getElem?_eq_some_iff.1 hy).1
      have hfd : f d[i]! = y := by
        rw [← hd, List.getElem?_map] at hy
        simp [hds, hiy] at hy
        simpa [hds, hiy] using hy
      have h1 := hr A (grow (putRow enc (Go.Sort.ahead w n) blk 0 d) os)
      have h2 := henc d[i]! A w _ (hfd ▸ hr A w)
      injection h2 with h2
      refine ⟨[enc b], h1, fun j u hj => ?_⟩
      cases j with
      | zero =>
        simp at hj
        subst hj
        rw [hs, Nat.mul_one, Nat.add_zero, List.getElem?_map, h2]
        simp [hds, hiy]
      | succ j => simp at hj
/-- the row of a value -/
theorem vec_cases {E : Enc α} {A : Av} {B T : Nat} {w : World} {u : Value} {xs : List α} (h : Vec E A B T w u xs) : (u = .slice none 0 0 ∧ xs = []) ∨ ∃ blk cap, u = .slice (some ⟨blk, 0, none⟩) xs.length cap ∧ blk < w.heap.size := by
  obtain ⟨cs, hown, _⟩ := h
  rcases hown.2 with ⟨e, h0⟩ | ⟨g, cap, cur, e, _, hg, _⟩
  · exact .inl ⟨e, List.eq_nil_of_length_eq_zero h0⟩
  · exact .inr ⟨g, cap, e, hg.lt⟩
end
end Go.Proofs.Ytmkgocdgkdglnaa
