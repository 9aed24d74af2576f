/- The table of the features' names. No statement of the seat is proved here. -/
import Derived.Test.YtcodfkieaoomnaaDoorGv
namespace Go.Proofs.YtcodfkieaoomnaaDoor
open Go.RowKit
set_option linter.unusedVariables false
theorem gFeat : Tryd.prog.globalNamed featName = some 0 := by kernel_rfl
/-- an element of the table, at its address -/
theorem GTab.featAt {w : World} (h : GTab w) {A : Av} {i : Int} (hi : inR i featL.length = true) {v : Value} (hv : v = .pointer (some ⟨0, i.toNat, none⟩)) : PRep eStr A w v (gtD featL i) := by
  obtain ⟨i0, i1⟩ := inR_iff.1 hi
  have hlt : i.toNat < featL.length := by omega
  have hc := var_cell h.feat gFeat (i := i.toNat) (v := .string ⟨(gtD featL i).toArray⟩) (by
    rw [List.getElem?_toArray, List.getElem?_map, List.getElem?_eq_getElem hlt]
    simp only [Option.map_some, gtD, List.getD_eq_getElem?_getD, List.getElem?_eq_getElem hlt, Option.getD_some])
  refine ⟨_, _, hv, cell_lt' hc, [.string ⟨(gtD featL i).toArray⟩], ⟨⟨(gtD featL i).toArray⟩, rfl, by simp, ?_⟩, fun j u hj => ?_⟩
  · have key : ∀ s ∈ featL, s.length ≤ maxLen := by decide
    have hm : gtD featL i ∈ featL := by
      unfold gtD
      rw [List.getD_eq_getElem?_getD, List.getElem?_eq_getElem hlt]
      exact List.getElem_mem hlt
    have := key _ hm
    simpa [ByteArray.size] using this
  · cases j with
    | zero => simp at hj; subst hj; exact hc
    | succ j => simp at hj
end Go.Proofs.YtcodfkieaoomnaaDoor
