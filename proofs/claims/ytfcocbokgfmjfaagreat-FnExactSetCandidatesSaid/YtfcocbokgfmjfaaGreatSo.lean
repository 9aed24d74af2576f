/- Sorting a row of our own, over the library's laid contracts: strings. No statement of the seat is proved here. -/
import Derived.Test.YtfcocbokgfmjfaaGreatTy
import Derived.Test.YtfcocbokgfmjfaaGreatLay
import Derived.Shelf.Slices.In.SortNone
import Derived.Shelf.SlSortCmp.NoneTotal
import Derived.Shelf.Small.Strs
import Derived.Shelf.Sort.Plain
namespace Go.Proofs.YtfcocbokgfmjfaaGreat
open Go.RowKit Go.Sort
set_option linter.unusedVariables false

theorem fr_grow {w w' : World} (h : Fr w w') : ∃ q os, w' = grow (w.drewN q) os := by
  refine ⟨w'.drawn - w.drawn, w'.heap.extract w.heap.size w'.heap.size, ?_⟩
  have hh : w'.heap = w.heap ++ w'.heap.extract w.heap.size w'.heap.size := by
    apply Array.ext_getElem?
    intro k
    by_cases hk : k < w.heap.size
    · rw [Array.getElem?_append_left hk]
      exact h.block k hk
    · rw [Array.getElem?_append_right (by omega), Array.getElem?_extract]
      split
      · congr 1
        omega
      · exact Array.getElem?_eq_none (by have := h.size; omega)
  have hd : w'.drawn = w.drawn + (w'.drawn - w.drawn) := by have := h.drawn; omega
  have h1 := h.os
  have h2 := h.tape
  have h3 := h.output
  obtain ⟨a1, a2, a3, a4, a5⟩ := w
  obtain ⟨b1, b2, b3, b4, b5⟩ := w'
  simp only [World.drewN, grow] at *
  subst h1 h2 h3
  rw [← hh, ← hd]
section
variable {α β : Type} [Inhabited β]
theorem putRow_ch {enc : β → Value} {w : World} {blk n : Nat} {d : Array β} {os : Array Obj} {u : Value} (hu : ownsB u blk) : Ch (ownsB u) w (grow (putRow enc (Go.Sort.ahead w n) blk 0 d) os) := by
  refine ⟨rfl, rfl, rfl, ?_, fun k hk hn => ?_, ?_⟩
  · simp [grow, putRow, mapBlock, Go.Sort.ahead]
  · have hne : blk ≠ k := fun e => hn (e ▸ hu)
    simp only [grow, putRow, mapBlock, Go.Sort.ahead]
    rw [Array.getElem?_append_left (by simpa using hk), Array.getElem?_modify, if_neg hne]
  · simp [grow, putRow, mapBlock, Go.Sort.ahead]
/-- a row of one cell an element, the library's way -/
theorem vec_holds {E : Enc α} {enc : β → Value} {f : β → α} {A : Av} {B T blk cap : Nat} {w : World} {xs : List α} {d : Array β} (hs : E.size = 1) (henc : ∀ (b : β) A w cs, E.rep A w (f b) cs → cs = [enc b]) (hd : d.toList.map f = xs) (h : Vec E A B T w (.slice (some ⟨blk, 0, none⟩) xs.length cap) xs) : Holds enc w blk 0 d := by
  obtain ⟨cs, hown, hf⟩ := h
  intro j hj
  have hlen : d.size = xs.length := by rw [← hd]; simp
  have hx : xs[j]? = some (f d[j]!) := by
    rw [← hd, List.getElem?_map]
    simp [hj]
  obtain ⟨ds, h1, h2⟩ := hf.2 j _ hx
  have h3 := henc _ _ _ _ h1
  subst h3
  have h4 := h2 0 _ rfl
  rw [hs, Nat.mul_one, Nat.add_zero] at h4
  refine ⟨?_, ?_⟩
  · have := hown.cells (g := blk) rfl j _ h4
    rwa [addr_add] at this
  · rcases hown.2 with ⟨e, _⟩ | ⟨g, cap', cur, e, hb, hg, _⟩
    · cases e
    · injection e with e1 e2 e3
      injection e1 with e1
      injection e1 with e1
      subst e1
      simp [World.frozen?, hg]
theorem vec_put {E : Enc α} {enc : β → Value} {f : β → α} {A : Av} {B T blk cap n : Nat} {w : World} {xs ys : List α} {d : Array β} {os : Array Obj} (hs : E.size = 1) (henc : ∀ (b : β) A w cs, E.rep A w (f b) cs → cs = [enc b])
    (hrep : ∀ A w A' w' x cs, E.rep A w x cs → E.rep A' w' x cs) (hd : d.toList.map f = ys) (hl : ys.length = xs.length) (hsub : ∀ y ∈ ys, y ∈ xs) (h : Vec E A B T w (.slice (some ⟨blk, 0, none⟩) xs.length cap) xs) :
    Vec E A B T (grow (putRow enc (Go.Sort.ahead w n) blk 0 d) os) (.slice (some ⟨blk, 0, none⟩) xs.length cap) ys := by
  obtain ⟨cs, hown, hf⟩ := h
  have hrow : ∀ y ∈ ys, ∃ b : β, f b = y ∧ ∀ A w, E.rep A w y [enc b] := by
    intro y hy
    obtain ⟨b, hb, rfl⟩ := List.mem_map.1 (hd ▸ hy)
    obtain ⟨i, hi⟩ := List.mem_iff_getElem?.1 (hsub _ hy)
    obtain ⟨ds, h1, h2⟩ := hf.2 i _ hi
    have h3 := henc _ _ _ _ h1
    subst h3
    exact ⟨b, rfl, fun A' w' => hrep _ _ _ _ _ _ h1⟩
  rcases hown.2 with ⟨e, _⟩ | ⟨g, cap', cur, e, hb, hg, hnc, hcm, hcs, htk⟩
  · cases e
  · injection e with e1 e2 e3
    injection e1 with e1
    injection e1 with e1
    subst e1 e3
    have hds : d.size = ys.length := by rw [← hd]; simp
    have hcur : ∀ j, j < ys.length → (putCells enc 0 d cur)[j]? = some (enc d[j]!) := fun j hj => by
      have hjc : j < cur.size := by rw [hcs, hs]; omega
      simp only [putCells, Array.getElem?_mapIdx]
      rw [Array.getElem?_eq_getElem hjc]
      simp [hds, hj]
    have hlay : (putCells enc 0 d cur).toList.take (ys.length * E.size) = d.toList.map enc := by
      rw [hs, Nat.mul_one]
      apply List.ext_getElem?
      intro j
      by_cases hj : j < ys.length
      · rw [List.getElem?_take, if_pos hj, Array.getElem?_toList, hcur j hj, List.getElem?_map]
        simp [hds, hj]
      · rw [List.getElem?_take, if_neg hj, List.getElem?_eq_none (by simp [hds]; omega)]
    refine ⟨d.toList.map enc, ⟨by simp [hds, hs], .inr ⟨blk, cap, putCells enc 0 d cur, by rw [hl], hb, ?_, by rw [hl]; exact hnc, hcm, by simp [putCells, hcs], hlay⟩⟩, by simp [hds, hs], fun i y hy => ?_⟩
    · have hlt := (Array.getElem?_eq_some_iff.1 hg).1
      simp only [grow, putRow, mapBlock, Go.Sort.ahead]
      rw [Array.getElem?_append_left (by simpa using hlt), Array.getElem?_modify, if_pos rfl, hg]
      rfl
    · obtain ⟨b, hb', hr⟩ := hrow y (List.mem_of_getElem? hy)
      have hiy : i < ys.length := (List.getElem?_eq_some_iff.1 hy).1
      have hfd : f d[i]! = y := by
        rw [← hd, List.getElem?_map] at hy
        simp [hds, hiy] at hy
        simpa [hds, hiy] using hy
      have h1 := hr A (grow (putRow enc (Go.Sort.ahead w n) blk 0 d) os)
      have h2 := henc d[i]! A w _ (hfd ▸ hr A w)
      injection h2 with h2
      refine ⟨[enc b], h1, fun j u hj => ?_⟩
      cases j with
      | zero =>
        simp at hj
        subst hj
        rw [hs, Nat.mul_one, Nat.add_zero, List.getElem?_map, h2]
        simp [hds, hiy]
      | succ j => simp at hj
/-- the row of a value -/
theorem vec_cases {E : Enc α} {A : Av} {B T : Nat} {w : World} {u : Value} {xs : List α} (h : Vec E A B T w u xs) : (u = .slice none 0 0 ∧ xs = []) ∨ ∃ blk cap, u = .slice (some ⟨blk, 0, none⟩) xs.length cap ∧ blk < w.heap.size := by
  obtain ⟨cs, hown, _⟩ := h
  rcases hown.2 with ⟨e, h0⟩ | ⟨g, cap, cur, e, _, hg, _⟩
  · exact .inl ⟨e, List.eq_nil_of_length_eq_zero h0⟩
  · exact .inr ⟨g, cap, e, (Array.getElem?_eq_some_iff.1 hg).1⟩
end
theorem enc_str (b : List UInt8) (A : Av) (w : World) (cs : List Value) (h : eStr.rep A w b cs) : cs = [encStr b] := by
  obtain ⟨s, rfl, rfl, _⟩ := h
  rfl
def M_sortS (fu : Nat) (p0 : List (List UInt8)) : Option (List (List UInt8)) := ck (lenOK p0.length) (some (p0.mergeSort fun x y => decide (x ≤ y)))
theorem M_sortS_ok {fu : Nat} {A0 : Av} {p0 r : List (List UInt8)} (hr : M_sortS fu p0 = some r) {w : World} {v0 : Value} {B0 : Nat} (hA : AvOK A0 w) (hN : ∀ b o, A0 b o → ¬ ownsB v0 b) (h0 : (Res.vec B0 9 eStr p0).ok A0 v0 w) :
    Calls Tryz.prog 102 #[v0] w fun e w' => ∃ v, e = .returned v ∧ (v = .tuple #[] ∧ (Res.vec B0 9 eStr r).ok A0 v0 w' ∧ Ch (ownsB v0) w w') := by
  obtain ⟨hlen, hr⟩ := ck_some hr
  obtain rfl := Option.some.inj hr
  rcases vec_cases h0 with ⟨rfl, rfl⟩ | ⟨blk, cap, rfl, hb⟩
  · refine (Any.slices_Sort_string_none Tryz.laysSort none 0 w).mono ?_
    rintro e w' ⟨he, rfl⟩
    exact ⟨_, he, rfl, by rw [List.mergeSort_nil]; exact h0, Ch.refl _ _⟩
  · have hH : Holds encStr w blk 0 p0.toArray := vec_holds (E := eStr) (f := fun x => x) rfl (fun b A w cs h => enc_str b A w cs h) (by simp) h0
    refine (Any.slices_Sort_string Tryz.laysSort blk 0 cap p0 w hH hb (by have := lenOK_le hlen; omega)).mono ?_
    rintro e w' ⟨he, n, os, rfl⟩
    refine ⟨_, he, rfl, ?_, putRow_ch rfl⟩
    have := vec_put (E := eStr) (enc := encStr) (f := fun x => x) (n := n) (os := os) (ys := p0.mergeSort fun x y => decide (x ≤ y)) (d := (p0.mergeSort fun x y => decide (x ≤ y)).toArray) rfl (fun b A w cs h => enc_str b A w cs h) (fun _ _ _ _ _ _ h => h) (by simp) (by simp) (fun y hy => (List.mem_mergeSort.1 hy)) h0
    exact this
/-- F orders the elements of xs, no two of which are alike -/
def sortOK {α : Type} [BEq α] (F : α → α → Option Int) (xs : List α) : Bool :=
  xs.all fun x => xs.all fun y => (F x y).isSome && !(decide (gv (F x x) < 0)) && (decide (gv (F x y) < 0) || decide (gv (F y x) < 0) || x == y) &&
    xs.all fun z => (!(decide (gv (F x y) < 0)) || !(decide (gv (F y z) < 0)) || decide (gv (F x z) < 0)) && (decide (gv (F x y) < 0) || decide (gv (F y z) < 0) || !(decide (gv (F x z) < 0)))
def M_sortF {α : Type} [BEq α] (fu : Nat) (p0 : List α) (p1 : α → α → Option Int) : Option (List α) := ck (lenOK p0.length) (ck (sortOK p1 p0) (some (p0.mergeSort fun x y => !(decide (gv (p1 y x) < 0)))))
theorem callsV_inj {f f' : FuncId} {c c' : List Value} (h : (Value.func (.func f) #[] c.toArray) = .func (.func f') #[] c'.toArray) : f = f' ∧ c = c' := by
  injection h with h1 h2 h3
  injection h1 with h1
  exact ⟨h1, by simpa using h3⟩
theorem M_sortFS_ok {fu : Nat} {A0 : Av} {p0 r : List (List UInt8)} {p1 : List UInt8 → List UInt8 → Option Int} (hr : M_sortF fu p0 p1 = some r) {w : World} {v0 v1 : Value} {B0 : Nat} (hA : AvOK A0 w) (hN : ∀ b o, A0 b o → ¬ ownsB v0 b) (h0 : (Res.vec B0 9 eStr p0).ok A0 v0 w)
    (h1 : FnK2 Tryz.prog eStr eStr (fun r => .raw (.int .i64 r)) A0 (ownsB v0) w v1 p1) :
    Calls Tryz.prog 90 #[v0, v1] w fun e w' => ∃ v, e = .returned v ∧ (v = .tuple #[] ∧ (Res.vec B0 9 eStr r).ok A0 v0 w' ∧ Ch (ownsB v0) w w') := by
  obtain ⟨hlen, hr⟩ := ck_some hr
  obtain ⟨hok, hr⟩ := ck_some hr
  obtain rfl := Option.some.inj hr
  simp only [sortOK, List.all_eq_true, Bool.and_eq_true] at hok
  cases hp : p0 with
  | nil =>
    subst hp
    have : ∃ p cap, v0 = .slice p 0 cap := by
      rcases vec_cases h0 with ⟨rfl, _⟩ | ⟨blk, cap, rfl, _⟩
      · exact ⟨_, _, rfl⟩
      · exact ⟨_, _, rfl⟩
    obtain ⟨p, cap, rfl⟩ := this
    refine (AnyF.slices_SortFunc_none Tryz.laysSortG p cap v1 w).mono ?_
    rintro e w' ⟨he, rfl⟩
    refine ⟨_, he, rfl, ?_, Ch.refl _ _⟩
    simpa using h0
  | cons x0 t0 =>
    rw [← hp]
    have hx0 : x0 ∈ p0 := by rw [hp]; simp
    have hrepS : ∀ x ∈ p0, ∀ A w, Rep eStr A w (encStr x) x := by
      intro x hx A w
      obtain ⟨cs, hown, hf⟩ := h0
      obtain ⟨i, hi⟩ := List.mem_iff_getElem?.1 hx
      obtain ⟨ds, h2, _⟩ := hf.2 i x hi
      have h3 := enc_str _ _ _ _ h2
      subst h3
      exact ⟨_, rfl, h2⟩
    have hsome : ∀ x ∈ p0, ∀ y ∈ p0, p1 x y = some (gv (p1 x y)) := fun x hx y hy => gv_some (hok x hx y hy).1.1.1
    obtain ⟨g, cb, rfl, hg, _⟩ := h1 x0 x0 _ (hsome x0 hx0 x0 hx0) w (encStr x0) (encStr x0) (Ch.refl _ _) hA (hrepS x0 hx0 A0 w) (hrepS x0 hx0 A0 w)
    rcases vec_cases h0 with ⟨rfl, e⟩ | ⟨blk, cap, rfl, hb⟩
    · rw [e] at hx0
      cases hx0
    · let β := {x : List UInt8 // x ∈ p0}
      have inst : Inhabited β := ⟨⟨x0, hx0⟩⟩
      let enc : β → Value := fun b => encStr b.1
      let cf : β → β → Int := fun x y => gv (p1 x.1 y.1)
      let d : Array β := p0.attach.toArray
      have hdm : d.toList.map (fun b : β => b.1) = p0 := by show (p0.attach.toArray).toList.map Subtype.val = p0; rw [List.toList_toArray]; exact List.attach_map_subtype_val p0
      have hds : d.size = p0.length := by show (p0.attach.toArray).size = _; rw [List.size_toArray, List.length_attach]
      have hO : SWO (ltOf cf) := by
        refine ⟨fun x => ?_, fun x y z hxy hyz => ?_, fun x y z hxy hyz => ?_⟩
        · have := (hok x.1 x.2 x.1 x.2).1.1.2
          simpa [ltOf, cf] using this
        · have := ((hok x.1 x.2 y.1 y.2).2 z.1 z.2).1
          simp only [ltOf, cf] at hxy hyz ⊢
          rw [hxy, hyz] at this
          simpa using this
        · have := ((hok x.1 x.2 y.1 y.2).2 z.1 z.2).2
          simp only [ltOf, cf] at hxy hyz ⊢
          rw [hxy, hyz] at this
          simpa using this
      have hT : ∀ x y, (ltOf cf) x y = false → (ltOf cf) y x = false → x = y := by
        intro x y hxy hyx
        have := (hok x.1 x.2 y.1 y.2).1.2
        simp only [ltOf, cf] at hxy hyx
        rw [hxy, hyx] at this
        exact Subtype.ext (by simpa using this)
      have hcmp : CmpLays1 Tryz.prog g cb.toArray enc cf blk 0 d.size w := by
        intro m os dk hdk x y
        have hch : Ch (ownsB (.slice (some ⟨blk, 0, none⟩) p0.length cap)) w (sortWorld enc w blk 0 m dk os) := putRow_ch rfl
        obtain ⟨g', cb', e, hg', hc⟩ := h1 x.1 y.1 _ (hsome x.1 x.2 y.1 y.2) (sortWorld enc w blk 0 m dk os) (enc x) (enc y) hch (hA.fr hch.size) (hrepS x.1 x.2 _ _) (hrepS y.1 y.2 _ _)
        obtain ⟨rfl, rfl⟩ := callsV_inj e
        have e2 : (#[enc x, enc y] ++ cb.toArray) = ([enc x, enc y] ++ cb).toArray := by simp
        rw [e2]
        refine hc.mono ?_
        rintro e w' ⟨u, he, hu, hfr⟩
        obtain rfl : u = .int .i64 (cf x y) := hu
        obtain ⟨q, os', hw⟩ := fr_grow hfr
        exact ⟨he, q, os', hw⟩
      have hH : Holds enc w blk 0 d := vec_holds (E := eStr) (f := fun b : β => b.1) rfl (fun b A w cs h => enc_str b.1 A w cs h) hdm h0
      have key := Any.slices_SortFunc_total Tryz.laysSortF enc (fun _ => rfl) cf hO g cb.toArray blk 0 cap d w hg hcmp hH hb (by rw [hds]; have := lenOK_le hlen; omega) hT
      rw [hds] at key
      refine key.mono ?_
      rintro e w' ⟨he, n, os, rfl⟩
      refine ⟨_, he, rfl, ?_, putRow_ch rfl⟩
      have hmap : (d.toList.mergeSort fun x y => !(ltOf cf) y x).map (fun b : β => b.1) = p0.mergeSort fun x y => !(decide (gv (p1 y x) < 0)) := by
        rw [List.map_mergeSort (f := fun b : β => b.1) (r := fun x y => !(ltOf cf) y x) (s := fun x y => !(decide (gv (p1 y x) < 0))) (l := d.toList) (fun a _ b _ => rfl), hdm]
      exact vec_put (E := eStr) (enc := enc) (f := fun b : β => b.1) (n := n) (os := os) (d := (d.toList.mergeSort fun x y => !(ltOf cf) y x).toArray) rfl (fun b A w cs h => enc_str b.1 A w cs h) (fun _ _ _ _ _ _ h => h) (by simpa using hmap) (by simp) (fun y hy => (List.mem_mergeSort.1 hy)) h0
/-- -1, 0, 1 -/
def M_strCmp (fu : Nat) (p0 p1 : List UInt8) : Option Int := some (Lib.compareBytes p0 p1)
theorem M_strCmp_ok {fu : Nat} {A : Av} {p0 p1 : List UInt8} {r : Int} (hr : M_strCmp fu p0 p1 = some r) {w : World} {v0 v1 : Value} (hA : AvOK A w) (h0 : Rep eStr A w v0 p0) (h1 : Rep eStr A w v1 p1) :
    Calls Tryz.prog 95 #[v0, v1] w fun e w' => ∃ v, e = .returned v ∧ (v = .int .i64 r ∧ Fr w w') := by
  obtain rfl := Option.some.inj hr
  obtain ⟨cs, h0, s, rfl, rfl, _⟩ := h0
  obtain ⟨cs, h1, t, rfl, rfl, _⟩ := h1
  obtain rfl : v0 = .string s := h0
  obtain rfl : v1 = .string t := h1
  refine (Any.strings_Compare Tryz.laysCmp s t w).mono ?_
  rintro e w' ⟨he, rfl⟩
  exact ⟨_, he, rfl, Fr.refl _⟩
end Go.Proofs.YtfcocbokgfmjfaaGreat
