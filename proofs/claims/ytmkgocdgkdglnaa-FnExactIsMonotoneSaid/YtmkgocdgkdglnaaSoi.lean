/- Sorting a row of ints of our own, over the library's laid contracts. No statement of the seat is proved here. -/
import Derived.Test.YtmkgocdgkdglnaaSh
import Derived.Test.YtmkgocdgkdglnaaSo
import Derived.Test.YtmkgocdgkdglnaaLay
namespace Go.Proofs.Ytmkgocdgkdglnaa
open Go.RowKit Go.Sort
set_option linter.unusedVariables false

theorem enc_int (b : Int) (A : Av) (w : World) (cs : List Value) (h : (eInt .i64).rep A w b cs) : cs = [Value.int .i64 b] := h
def M_sortI (fu : Nat) (p0 : List Int) : Option (List Int) := ck (lenOK p0.length) (some (p0.mergeSort fun x y => decide (x ≤ y)))
theorem M_sortI_ok {fu : Nat} {A0 : Av} {p0 r : List Int} (hr : M_sortI fu p0 = some r) {w : World} {v0 : Value} {B0 : Nat} (hA : AvOK A0 w) (hN : ∀ b o, A0 b o → ¬ ownsB v0 b) (h0 : (Res.vec B0 3 (eInt .i64) p0).ok A0 v0 w) :
    Calls Try.prog 66 #[v0] w fun e w' => ∃ v, e = .returned v ∧ (v = .tuple #[] ∧ (Res.vec B0 3 (eInt .i64) r).ok A0 v0 w' ∧ Ch (ownsB v0) w w') := by
  obtain ⟨hlen, hr⟩ := ck_some hr
  obtain rfl := Option.some.inj hr
  rcases vec_cases h0 with ⟨rfl, rfl⟩ | ⟨blk, cap, rfl, hb⟩
  · refine (Any.slices_Sort_int_none Try.laysSortI none 0 w).mono ?_
    rintro e w' ⟨he, rfl⟩
    exact ⟨_, he, rfl, by rw [List.mergeSort_nil]; exact h0, Ch.refl _ _⟩
  · have hH : Holds (Value.int .i64) w blk 0 p0.toArray := vec_holds (E := eInt .i64) (f := fun x => x) rfl (fun b A w cs h => enc_int b A w cs h) (by simp) h0
    refine (Any.slices_Sort_int Try.laysSortI blk 0 cap p0 w hH hb (by have := lenOK_le hlen; omega)).mono ?_
    rintro e w' ⟨he, n, os, rfl⟩
    refine ⟨_, he, rfl, ?_, putRow_ch rfl⟩
    have := vec_put (E := eInt .i64) (enc := Value.int .i64) (f := fun x => x) (n := n) (os := os) (ys := p0.mergeSort fun x y => decide (x ≤ y)) (d := (p0.mergeSort fun x y => decide (x ≤ y)).toArray) rfl (fun b A w cs h => enc_int b A w cs h) (fun _ _ _ _ _ _ h => h) (by simp) (by simp) (fun y hy => (List.mem_mergeSort.1 hy)) h0
    exact this
end Go.Proofs.Ytmkgocdgkdglnaa
