/- Sorting a row of flat structs (impl.Test) of our own, over the library's laid contracts. No statement of the seat is proved here. -/
import Derived.Test.YtjfhlhhobpdneaaSh
import Derived.Test.YtjfhlhhobpdneaaLay
import Derived.Shelf.SlSortCmp.WholeK
namespace Go.Proofs.Ytjfhlhhobpdneaa
open Go.RowKit Go.Sort
set_option linter.unusedVariables false

section
variable {α β : Type} [Inhabited β]
theorem flatK_get {enc : β → List Value} {k : Nat} {d : Array β} {i j : Nat} (hk : ∀ x, (enc x).length = k) (hi : i < d.size) (hj : j < k) : (flatK enc k d)[i * k + j]! = (enc d[i]!)[j]! := by
  have h1 : i * k + j < d.size * k := by
    have := Nat.mul_le_mul_right k (show i + 1 ≤ d.size from hi)
    rw [Nat.add_mul, Nat.one_mul] at this
    omega
  rw [get_flatK _ _ _ _ h1, Nat.mul_comm i k, Nat.mul_add_div (by omega), Nat.div_eq_of_lt hj, Nat.mul_add_mod, Nat.mod_eq_of_lt hj, Nat.add_zero]
theorem some_get! {xs : List Value} {j : Nat} (h : j < xs.length) : xs[j]? = some xs[j]! := by
  rw [List.getElem?_eq_getElem h, getElem!_pos xs j h]
theorem vec_holdsK {E : Enc α} {enc : β → List Value} {f : β → α} {A : Av} {B T blk cap : Nat} {w : World} {xs : List α} {d : Array β} (hk : ∀ b, (enc b).length = E.size) (henc : ∀ (b : β) A w cs, E.rep A w (f b) cs → cs = enc b) (hd : d.toList.map f = xs) (h : Vec E A B T w (.slice (some ⟨blk, 0, none⟩) xs.length cap) xs) : HoldsK enc E.size w blk 0 d := by
  obtain ⟨cs, hown, hf⟩ := h
  intro t ht
  rw [size_flatK] at ht
  have hlen : d.size = xs.length := by rw [← hd]; simp
  have k0 : 0 < E.size := Nat.pos_of_ne_zero fun h => by rw [h] at ht; simp at ht
  have hi : t / E.size < d.size := (Nat.div_lt_iff_lt_mul k0).2 ht
  have hj : t % E.size < E.size := Nat.mod_lt _ k0
  have hx : xs[t / E.size]? = some (f d[t / E.size]!) := by
    rw [← hd, List.getElem?_map]
    simp [hi]
  obtain ⟨ds, h1, h2⟩ := hf.2 _ _ hx
  have h3 := henc _ _ _ _ h1
  subst h3
  have h4 := h2 (t % E.size) _ (some_get! (by rw [hk]; exact hj))
  rw [Nat.div_add_mod'] at h4
  refine ⟨?_, ?_⟩
  · have := hown.cells (g := blk) rfl t _ h4
    rw [addr_add] at this
    rw [get_flatK _ _ _ _ ht]
    exact this
  · rcases hown.2 with ⟨e, _⟩ | ⟨g, cap', cur, e, hb, hg, _⟩
    · cases e
    · injection e with e1 e2 e3
      injection e1 with e1
      injection e1 with e1
      subst e1
      simp [World.frozen?, hg]
theorem vec_putK {E : Enc α} {enc : β → List Value} {f : β → α} {A : Av} {B T blk cap n : Nat} {w : World} {xs ys : List α} {d : Array β} {os : Array Obj} (hk : ∀ b, (enc b).length = E.size) (henc : ∀ (b : β) A w cs, E.rep A w (f b) cs → cs = enc b)
    (hrep : ∀ A w A' w' x cs, E.rep A w x cs → E.rep A' w' x cs) (hd : d.toList.map f = ys) (hl : ys.length = xs.length) (hsub : ∀ y ∈ ys, y ∈ xs) (h : Vec E A B T w (.slice (some ⟨blk, 0, none⟩) xs.length cap) xs) :
    Vec E A B T (grow (putRow id (Go.Sort.ahead w n) blk 0 (flatK enc E.size d)) os) (.slice (some ⟨blk, 0, none⟩) xs.length cap) ys := by
  obtain ⟨cs, hown, hf⟩ := h
  have hrow : ∀ b ∈ d.toList, ∀ A w, E.rep A w (f b) (enc b) := by
    intro b hb A' w'
    obtain ⟨i, hi⟩ := List.mem_iff_getElem?.1 (hsub _ (hd ▸ List.mem_map_of_mem hb))
    obtain ⟨ds, h1, h2⟩ := hf.2 i _ hi
    have h3 := henc _ _ _ _ h1
    subst h3
    exact hrep _ _ _ _ _ _ h1
  rcases hown.2 with ⟨e, _⟩ | ⟨g, cap', cur, e, hb, hg, hnc, hcm, hcs, htk⟩
  · cases e
  · injection e with e1 e2 e3
    injection e1 with e1
    injection e1 with e1
    subst e1 e3
    have hds : d.size = ys.length := by rw [← hd]; simp
    have hFs : (flatK enc E.size d).size = ys.length * E.size := by rw [size_flatK, hds]
    generalize hF : flatK enc E.size d = F at *
    have hcl : ys.length * E.size ≤ cur.size := by
      rw [hcs]
      exact Nat.mul_le_mul_right _ (by omega)
    have hcur : ∀ j, j < ys.length * E.size → (putCells id 0 F cur)[j]? = some F[j]! := fun j hj => by
      have hjc : j < cur.size := by omega
      simp only [putCells, Array.getElem?_mapIdx]
      rw [Array.getElem?_eq_getElem hjc]
      simp [hFs, hj]
    have hlay : (putCells id 0 F cur).toList.take (ys.length * E.size) = F.toList := by
      apply List.ext_getElem?
      intro j
      by_cases hj : j < ys.length * E.size
      · have hjF : j < F.size := by omega
        rw [List.getElem?_take, if_pos hj, Array.getElem?_toList, hcur j hj, Array.getElem?_toList, Array.getElem?_eq_getElem hjF, getElem!_pos F j hjF]
      · rw [List.getElem?_take, if_neg hj, List.getElem?_eq_none (by rw [Array.length_toList]; omega)]
    refine ⟨F.toList, ⟨by rw [Array.length_toList, hFs], .inr ⟨blk, cap, putCells id 0 F cur, by rw [hl], hb, ?_, by rw [hl]; exact hnc, hcm, by simp [putCells, hcs], hlay⟩⟩, by rw [Array.length_toList, hFs], fun i y hy => ?_⟩
    · have hlt := (Array.getElem?_eq_some_iff.1 hg).1
      simp only [grow, putRow, mapBlock, Go.Sort.ahead]
      rw [Array.getElem?_append_left (by simpa using hlt), Array.getElem?_modify, if_pos rfl, hg]
      rfl
    · have hiy : i < ys.length := (List.getElem?_eq_some_iff.1 hy).1
      have hid : i < d.size := by omega
      have hfd : f d[i]! = y := by
        rw [← hd, List.getElem?_map] at hy
        simp [hid] at hy
        simpa [hid] using hy
      have hm : d[i]! ∈ d.toList := by
        rw [getElem!_pos d i hid]
        exact Array.getElem_mem_toList hid
      refine ⟨enc d[i]!, hfd ▸ hrow _ hm _ _, fun j u hj => ?_⟩
      have hjk : j < E.size := by rw [← hk d[i]!]; exact (List.getElem?_eq_some_iff.1 hj).1
      have hij : i * E.size + j < F.size := by
        have := Nat.mul_le_mul_right E.size (show i + 1 ≤ ys.length from hiy)
        rw [Nat.add_mul, Nat.one_mul] at this
        omega
      rw [Array.getElem?_toList, Array.getElem?_eq_getElem hij, ← getElem!_pos F _ hij, ← hF, flatK_get hk hid hjk, ← hj]
      exact (some_get! (by rw [hk]; exact hjk)).symm
end
def encT (x : T_impl_Test) : List Value := [.int .i64 x.1, .int .i64 x.2.1, .bool x.2.2]
theorem enc_T (b : T_impl_Test) (A : Av) (w : World) (cs : List Value) (h : E_impl_Test.rep A w b cs) : cs = encT b := by
  obtain ⟨_, _, rfl, rfl, ⟨_, _, rfl, rfl, rfl⟩⟩ := h
  rfl
theorem rep_T (A : Av) (w : World) (b : T_impl_Test) : E_impl_Test.rep A w b (encT b) := rep_pr rep1_int (rep_pr rep1_int rep1_bool)
theorem repT (A : Av) (w : World) (b : T_impl_Test) : Rep E_impl_Test A w (.agg (encT b).toArray) b := ⟨_, rfl, rep_T A w b⟩
theorem M_sortFT_ok {fu : Nat} {A0 : Av} {p0 r : List T_impl_Test} {p1 : T_impl_Test → T_impl_Test → Option Int} (hr : M_sortF fu p0 p1 = some r) {w : World} {v0 v1 : Value} {B0 : Nat} (hA : AvOK A0 w) (hN : ∀ b o, A0 b o → ¬ ownsB v0 b) (h0 : (Res.vec B0 85 E_impl_Test p0).ok A0 v0 w)
    (h1 : FnK2 Try.prog E_impl_Test E_impl_Test (fun r => .raw (.int .i64 r)) A0 (ownsB v0) w v1 p1) :
    Calls Try.prog 93 #[v0, v1] w fun e w' => ∃ v, e = .returned v ∧ (v = .tuple #[] ∧ (Res.vec B0 85 E_impl_Test r).ok A0 v0 w' ∧ Ch (ownsB v0) w w') := by
  obtain ⟨hlen, hr⟩ := ck_some hr
  obtain ⟨hok, hr⟩ := ck_some hr
  obtain rfl := Option.some.inj hr
  simp only [sortOK, List.all_eq_true, Bool.and_eq_true] at hok
  cases hp : p0 with
  | nil =>
    subst hp
    have : ∃ p cap, v0 = .slice p 0 cap := by
      rcases vec_cases h0 with ⟨rfl, _⟩ | ⟨blk, cap, rfl, _⟩
      · exact ⟨_, _, rfl⟩
      · exact ⟨_, _, rfl⟩
    obtain ⟨p, cap, rfl⟩ := this
    refine (AnyF.slices_SortFunc_none Try.laysSortT p cap v1 w).mono ?_
    rintro e w' ⟨he, rfl⟩
    refine ⟨_, he, rfl, ?_, Ch.refl _ _⟩
    simpa using h0
  | cons x0 t0 =>
    rw [← hp]
    have hx0 : x0 ∈ p0 := by rw [hp]; simp
    have hsome : ∀ x ∈ p0, ∀ y ∈ p0, p1 x y = some (gv (p1 x y)) := fun x hx y hy => gv_some (hok x hx y hy).1.1.1
    obtain ⟨g, cb, rfl, hg, _⟩ := h1 x0 x0 _ (hsome x0 hx0 x0 hx0) w (.agg (encT x0).toArray) (.agg (encT x0).toArray) (Ch.refl _ _) hA (repT A0 w x0) (repT A0 w x0)
    rcases vec_cases h0 with ⟨rfl, e⟩ | ⟨blk, cap, rfl, hb⟩
    · rw [e] at hx0
      cases hx0
    · let β := {x : T_impl_Test // x ∈ p0}
      have inst : Inhabited β := ⟨⟨x0, hx0⟩⟩
      let enc : β → List Value := fun b => encT b.1
      let cf : β → β → Int := fun x y => gv (p1 x.1 y.1)
      let d : Array β := p0.attach.toArray
      have hdm : d.toList.map (fun b : β => b.1) = p0 := by show (p0.attach.toArray).toList.map Subtype.val = p0; rw [List.toList_toArray]; exact List.attach_map_subtype_val p0
      have hds : d.size = p0.length := by show (p0.attach.toArray).size = _; rw [List.size_toArray, List.length_attach]
      have hO : SWO (ltOf cf) := by
        refine ⟨fun x => ?_, fun x y z hxy hyz => ?_, fun x y z hxy hyz => ?_⟩
        · have := (hok x.1 x.2 x.1 x.2).1.1.2
          simpa [ltOf, cf] using this
        · have := ((hok x.1 x.2 y.1 y.2).2 z.1 z.2).1
          simp only [ltOf, cf] at hxy hyz ⊢
          rw [hxy, hyz] at this
          simpa using this
        · have := ((hok x.1 x.2 y.1 y.2).2 z.1 z.2).2
          simp only [ltOf, cf] at hxy hyz ⊢
          rw [hxy, hyz] at this
          simpa using this
      have hT : ∀ x y, (ltOf cf) x y = false → (ltOf cf) y x = false → x = y := by
        intro x y hxy hyx
        have := (hok x.1 x.2 y.1 y.2).1.2
        simp only [ltOf, cf] at hxy hyx
        rw [hxy, hyx] at this
        exact Subtype.ext (by simpa using this)
      have hcmp : CmpLays Try.prog g cb.toArray enc 3 cf blk 0 d.size w := by
        intro m os dk hdk x y
        have hch : Ch (ownsB (.slice (some ⟨blk, 0, none⟩) p0.length cap)) w (sortWorldK enc 3 w blk 0 m dk os) := putRow_ch rfl
        obtain ⟨g', cb', e, hg', hc⟩ := h1 x.1 y.1 _ (hsome x.1 x.2 y.1 y.2) (sortWorldK enc 3 w blk 0 m dk os) (.agg (enc x).toArray) (.agg (enc y).toArray) hch (hA.fr hch.size) (repT _ _ x.1) (repT _ _ y.1)
        obtain ⟨rfl, rfl⟩ := callsV_inj e
        have e2 : ((#[Value.agg (enc x).toArray, Value.agg (enc y).toArray] : Array Value) ++ cb.toArray) = ([Value.agg (enc x).toArray, Value.agg (enc y).toArray] ++ cb).toArray := by simp
        rw [e2]
        refine hc.mono ?_
        rintro e w' ⟨u, he, hu, hfr⟩
        obtain rfl : u = .int .i64 (cf x y) := hu
        obtain ⟨q, os', hw⟩ := fr_grow hfr
        exact ⟨he, q, os', hw⟩
      have hH : HoldsK enc 3 w blk 0 d := vec_holdsK (E := E_impl_Test) (f := fun b : β => b.1) (fun _ => rfl) (fun b A w cs h => enc_T b.1 A w cs h) hdm h0
      have key := AnyQ.slices_SortFunc_total Try.laysSortT 3 Try.isAgg85 Try.sizeOf85 enc (fun _ => rfl) (fun x v hv => E_impl_Test.oc (rep_T (fun _ _ => False) w x.1) v hv) cf hO g cb.toArray blk 0 cap d w hg hcmp hH hb (by rw [hds]; have := lenOK_le hlen; omega) hT
      rw [hds] at key
      refine key.mono ?_
      rintro e w' ⟨he, n, os, rfl⟩
      refine ⟨_, he, rfl, ?_, putRow_ch rfl⟩
      have hmap : (d.toList.mergeSort fun x y => !(ltOf cf) y x).map (fun b : β => b.1) = p0.mergeSort fun x y => !(decide (gv (p1 y x) < 0)) := by
        rw [List.map_mergeSort (f := fun b : β => b.1) (r := fun x y => !(ltOf cf) y x) (s := fun x y => !(decide (gv (p1 y x) < 0))) (l := d.toList) (fun a _ b _ => rfl), hdm]
      exact vec_putK (E := E_impl_Test) (enc := enc) (f := fun b : β => b.1) (n := n) (os := os) (d := (d.toList.mergeSort fun x y => !(ltOf cf) y x).toArray) (fun _ => rfl) (fun b A w cs h => enc_T b.1 A w cs h) (fun _ _ _ _ _ _ h => by have := enc_T _ _ _ _ h; subst this; exact rep_T _ _ _) (by simpa using hmap) (by simp) (fun y hy => (List.mem_mergeSort.1 hy)) h0
end Go.Proofs.Ytjfhlhhobpdneaa
