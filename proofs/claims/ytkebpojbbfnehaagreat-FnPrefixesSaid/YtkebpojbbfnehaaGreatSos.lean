/- Sorting a row of strings of our own, over the library's laid contracts. No statement of the seat is proved here. -/
import Derived.Test.YtkebpojbbfnehaaGreatSh
import Derived.Test.YtkebpojbbfnehaaGreatSo
import Derived.Test.YtkebpojbbfnehaaGreatLay
namespace Go.Proofs.YtkebpojbbfnehaaGreat
open Go.RowKit Go.Sort
set_option linter.unusedVariables false

theorem enc_str (b : List UInt8) (A : Av) (w : World) (cs : List Value) (h : eStr.rep A w b cs) : cs = [encStr b] := by
  obtain ⟨s, rfl, rfl, _⟩ := h
  rfl
def M_sortS (fu : Nat) (p0 : List (List UInt8)) : Option (List (List UInt8)) := ck (lenOK p0.length) (some (p0.mergeSort fun x y => decide (x ≤ y)))
theorem M_sortS_ok {fu : Nat} {A0 : Av} {p0 r : List (List UInt8)} (hr : M_sortS fu p0 = some r) {w : World} {v0 : Value} {B0 : Nat} (hA : AvOK A0 w) (hN : ∀ b o, A0 b o → ¬ ownsB v0 b) (h0 : (Res.vec B0 9 eStr p0).ok A0 v0 w) :
    Calls Tryz.prog 99 #[v0] w fun e w' => ∃ v, e = .returned v ∧ (v = .tuple #[] ∧ (Res.vec B0 9 eStr r).ok A0 v0 w' ∧ Ch (ownsB v0) w w') := by
  obtain ⟨hlen, hr⟩ := ck_some hr
  obtain rfl := Option.some.inj hr
  rcases vec_cases h0 with ⟨rfl, rfl⟩ | ⟨blk, cap, rfl, hb⟩
  · refine (Any.slices_Sort_string_none Tryz.laysSort none 0 w).mono ?_
    rintro e w' ⟨he, rfl⟩
    exact ⟨_, he, rfl, by rw [List.mergeSort_nil]; exact h0, Ch.refl _ _⟩
  · have hH : Holds encStr w blk 0 p0.toArray := vec_holds (E := eStr) (f := fun x => x) rfl (fun b A w cs h => enc_str b A w cs h) (by simp) h0
    refine (Any.slices_Sort_string Tryz.laysSort blk 0 cap p0 w hH hb (by have := lenOK_le hlen; omega)).mono ?_
    rintro e w' ⟨he, n, os, rfl⟩
    refine ⟨_, he, rfl, ?_, putRow_ch rfl⟩
    have := vec_put (E := eStr) (enc := encStr) (f := fun x => x) (n := n) (os := os) (ys := p0.mergeSort fun x y => decide (x ≤ y)) (d := (p0.mergeSort fun x y => decide (x ≤ y)).toArray) rfl (fun b A w cs h => enc_str b A w cs h) (fun _ _ _ _ _ _ h => h) (by simp) (by simp) (fun y hy => (List.mem_mergeSort.1 hy)) h0
    exact this
theorem M_sortFS_ok {fu : Nat} {A0 : Av} {p0 r : List (List UInt8)} {p1 : List UInt8 → List UInt8 → Option Int} (hr : M_sortF fu p0 p1 = some r) {w : World} {v0 v1 : Value} {B0 : Nat} (hA : AvOK A0 w) (hN : ∀ b o, A0 b o → ¬ ownsB v0 b) (h0 : (Res.vec B0 9 eStr p0).ok A0 v0 w)
    (h1 : FnK2 Tryz.prog eStr eStr (fun r => .raw (.int .i64 r)) A0 (ownsB v0) w v1 p1) :
    Calls Tryz.prog 81 #[v0, v1] w fun e w' => ∃ v, e = .returned v ∧ (v = .tuple #[] ∧ (Res.vec B0 9 eStr r).ok A0 v0 w' ∧ Ch (ownsB v0) w w') := by
  obtain ⟨hlen, hr⟩ := ck_some hr
  obtain ⟨hok, hr⟩ := ck_some hr
  obtain rfl := Option.some.inj hr
  simp only [sortOK, List.all_eq_true, Bool.and_eq_true] at hok
  cases hp : p0 with
  | nil =>
    subst hp
    have : ∃ p cap, v0 = .slice p 0 cap := by
      rcases vec_cases h0 with ⟨rfl, _⟩ | ⟨blk, cap, rfl, _⟩
      · exact ⟨_, _, rfl⟩
      · exact ⟨_, _, rfl⟩
    obtain ⟨p, cap, rfl⟩ := this
    refine (AnyF.slices_SortFunc_none Tryz.laysSortG p cap v1 w).mono ?_
    rintro e w' ⟨he, rfl⟩
    refine ⟨_, he, rfl, ?_, Ch.refl _ _⟩
    simpa using h0
  | cons x0 t0 =>
    rw [← hp]
    have hx0 : x0 ∈ p0 := by rw [hp]; simp
    have hrepS : ∀ x ∈ p0, ∀ A w, Rep eStr A w (encStr x) x := by
      intro x hx A w
      obtain ⟨cs, hown, hf⟩ := h0
      obtain ⟨i, hi⟩ := List.mem_iff_getElem?.1 hx
      obtain ⟨ds, h2, _⟩ := hf.2 i x hi
      have h3 := enc_str _ _ _ _ h2
      subst h3
      exact ⟨_, rfl, h2⟩
    have hsome : ∀ x ∈ p0, ∀ y ∈ p0, p1 x y = some (gv (p1 x y)) := fun x hx y hy => gv_some (hok x hx y hy).1.1.1
    obtain ⟨g, cb, rfl, hg, _⟩ := h1 x0 x0 _ (hsome x0 hx0 x0 hx0) w (encStr x0) (encStr x0) (Ch.refl _ _) hA (hrepS x0 hx0 A0 w) (hrepS x0 hx0 A0 w)
    rcases vec_cases h0 with ⟨rfl, e⟩ | ⟨blk, cap, rfl, hb⟩
    · rw [e] at hx0
      cases hx0
    · let β := {x : List UInt8 // x ∈ p0}
      have inst : Inhabited β := ⟨⟨x0, hx0⟩⟩
      let enc : β → Value := fun b => encStr b.1
      let cf : β → β → Int := fun x y => gv (p1 x.1 y.1)
      let d : Array β := p0.attach.toArray
      have hdm : d.toList.map (fun b : β => b.1) = p0 := by show (p0.attach.toArray).toList.map Subtype.val = p0; rw [List.toList_toArray]; exact List.attach_map_subtype_val p0
      have hds : d.size = p0.length := by show (p0.attach.toArray).size = _; rw [List.size_toArray, List.length_attach]
      have hO : SWO (ltOf cf) := by
        refine ⟨fun x => ?_, fun x y z hxy hyz => ?_, fun x y z hxy hyz => ?_⟩
        · have := (hok x.1 x.2 x.1 x.2).1.1.2
          simpa [ltOf, cf] using this
        · have := ((hok x.1 x.2 y.1 y.2).2 z.1 z.2).1
          simp only [ltOf, cf] at hxy hyz ⊢
          rw [hxy, hyz] at this
          simpa using this
        · have := ((hok x.1 x.2 y.1 y.2).2 z.1 z.2).2
          simp only [ltOf, cf] at hxy hyz ⊢
          rw [hxy, hyz] at this
          simpa using this
      have hT : ∀ x y, (ltOf cf) x y = false → (ltOf cf) y x = false → x = y := by
        intro x y hxy hyx
        have := (hok x.1 x.2 y.1 y.2).1.2
        simp only [ltOf, cf] at hxy hyx
        rw [hxy, hyx] at this
        exact Subtype.ext (by simpa using this)
      have hcmp : CmpLays1 Tryz.prog g cb.toArray enc cf blk 0 d.size w := by
        intro m os dk hdk x y
        have hch : Ch (ownsB (.slice (some ⟨blk, 0, none⟩) p0.length cap)) w (sortWorld enc w blk 0 m dk os) := putRow_ch rfl
        obtain ⟨g', cb', e, hg', hc⟩ := h1 x.1 y.1 _ (hsome x.1 x.2 y.1 y.2) (sortWorld enc w blk 0 m dk os) (enc x) (enc y) hch (hA.fr hch.size) (hrepS x.1 x.2 _ _) (hrepS y.1 y.2 _ _)
        obtain ⟨rfl, rfl⟩ := callsV_inj e
        have e2 : (#[enc x, enc y] ++ cb.toArray) = ([enc x, enc y] ++ cb).toArray := by simp
        rw [e2]
        refine hc.mono ?_
        rintro e w' ⟨u, he, hu, hfr⟩
        obtain rfl : u = .int .i64 (cf x y) := hu
        obtain ⟨q, os', hw⟩ := fr_grow hfr
        exact ⟨he, q, os', hw⟩
      have hH : Holds enc w blk 0 d := vec_holds (E := eStr) (f := fun b : β => b.1) rfl (fun b A w cs h => enc_str b.1 A w cs h) hdm h0
      have key := Any.slices_SortFunc_total Tryz.laysSortF enc (fun _ => rfl) cf hO g cb.toArray blk 0 cap d w hg hcmp hH hb (by rw [hds]; have := lenOK_le hlen; omega) hT
      rw [hds] at key
      refine key.mono ?_
      rintro e w' ⟨he, n, os, rfl⟩
      refine ⟨_, he, rfl, ?_, putRow_ch rfl⟩
      have hmap : (d.toList.mergeSort fun x y => !(ltOf cf) y x).map (fun b : β => b.1) = p0.mergeSort fun x y => !(decide (gv (p1 y x) < 0)) := by
        rw [List.map_mergeSort (f := fun b : β => b.1) (r := fun x y => !(ltOf cf) y x) (s := fun x y => !(decide (gv (p1 y x) < 0))) (l := d.toList) (fun a _ b _ => rfl), hdm]
      exact vec_put (E := eStr) (enc := enc) (f := fun b : β => b.1) (n := n) (os := os) (d := (d.toList.mergeSort fun x y => !(ltOf cf) y x).toArray) rfl (fun b A w cs h => enc_str b.1 A w cs h) (fun _ _ _ _ _ _ h => h) (by simpa using hmap) (by simp) (fun y hy => (List.mem_mergeSort.1 hy)) h0
/-- -1, 0, 1 -/
def M_strCmp (fu : Nat) (p0 p1 : List UInt8) : Option Int := some (Lib.compareBytes p0 p1)
theorem M_strCmp_ok {fu : Nat} {A : Av} {p0 p1 : List UInt8} {r : Int} (hr : M_strCmp fu p0 p1 = some r) {w : World} {v0 v1 : Value} (hA : AvOK A w) (h0 : Rep eStr A w v0 p0) (h1 : Rep eStr A w v1 p1) :
    Calls Tryz.prog 86 #[v0, v1] w fun e w' => ∃ v, e = .returned v ∧ (v = .int .i64 r ∧ Fr w w') := by
  obtain rfl := Option.some.inj hr
  obtain ⟨cs, h0, s, rfl, rfl, _⟩ := h0
  obtain ⟨cs, h1, t, rfl, rfl, _⟩ := h1
  obtain rfl : v0 = .string s := h0
  obtain rfl : v1 = .string t := h1
  refine (Any.strings_Compare Tryz.laysCmp s t w).mono ?_
  rintro e w' ⟨he, rfl⟩
  exact ⟨_, he, rfl, Fr.refl _⟩
end Go.Proofs.YtkebpojbbfnehaaGreat
