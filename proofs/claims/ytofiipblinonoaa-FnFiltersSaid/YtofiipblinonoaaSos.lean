/- Sorting a row of strings of our own, over the library's laid contracts. No statement of the seat is proved here. -/
import Derived.Test.YtofiipblinonoaaSh
import Derived.Test.YtofiipblinonoaaSo
import Derived.Test.YtofiipblinonoaaLay
namespace Go.Proofs.Ytofiipblinonoaa
open Go.RowKit Go.Sort
set_option linter.unusedVariables false

theorem enc_str (b : List UInt8) (A : Av) (w : World) (cs : List Value) (h : eStr.rep A w b cs) : cs = [encStr b] := by
  obtain ⟨s, rfl, rfl, _⟩ := h
  rfl
def M_sortS (fu : Nat) (p0 : List (List UInt8)) : Option (List (List UInt8)) := ck (lenOK p0.length) (some (p0.mergeSort fun x y => decide (x ≤ y)))
theorem M_sortS_ok {fu : Nat} {A0 : Av} {p0 r : List (List UInt8)} (hr : M_sortS fu p0 = some r) {w : World} {v0 : Value} {B0 : Nat} (hA : AvOK A0 w) (hN : ∀ b o, A0 b o → ¬ ownsB v0 b) (h0 : (Res.vec B0 9 eStr p0).ok A0 v0 w) :
    Calls Try.prog 83 #[v0] w fun e w' => ∃ v, e = .returned v ∧ (v = .tuple #[] ∧ (Res.vec B0 9 eStr r).ok A0 v0 w' ∧ Ch (ownsB v0) w w') := by
  obtain ⟨hlen, hr⟩ := ck_some hr
  obtain rfl := Option.some.inj hr
  rcases vec_cases h0 with ⟨rfl, rfl⟩ | ⟨blk, cap, rfl, hb⟩
  · refine (Any.slices_Sort_string_none Try.laysSort none 0 w).mono ?_
    rintro e w' ⟨he, rfl⟩
    exact ⟨_, he, rfl, by rw [List.mergeSort_nil]; exact h0, Ch.refl _ _⟩
  · have hH : Holds encStr w blk 0 p0.toArray := vec_holds (E := eStr) (f := fun x => x) rfl (fun b A w cs h => enc_str b A w cs h) (by simp) h0
    refine (Any.slices_Sort_string Try.laysSort blk 0 cap p0 w hH hb (by have := lenOK_le hlen; omega)).mono ?_
    rintro e w' ⟨he, n, os, rfl⟩
    refine ⟨_, he, rfl, ?_, putRow_ch rfl⟩
    have := vec_put (E := eStr) (enc := encStr) (f := fun x => x) (n := n) (os := os) (ys := p0.mergeSort fun x y => decide (x ≤ y)) (d := (p0.mergeSort fun x y => decide (x ≤ y)).toArray) rfl (fun b A w cs h => enc_str b A w cs h) (fun _ _ _ _ _ _ h => h) (by simp) (by simp) (fun y hy => (List.mem_mergeSort.1 hy)) h0
    exact this
end Go.Proofs.Ytofiipblinonoaa
