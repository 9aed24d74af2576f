/- The package variables that the program reads, as facts on a world. No statement of the seat is proved here. -/
import Derived.Test.YtcodfkieaoomnaaDoorSh
import Derived.Test.YtcodfkieaoomnaaDoorLay
import Derived.Lib.LaidTab
namespace Go.Proofs.YtcodfkieaoomnaaDoor
open Go.RowKit Go.Sort
set_option linter.unusedVariables false

/-- the names, as the program's text lays them -/
def featL : List (List UInt8) := [[110, 97, 109, 101], [116, 111, 107, 101, 110, 115], [115, 111, 117, 110, 100], [99, 105, 116, 121], [121, 101, 97, 114], [112, 104, 111, 110, 101]]
def featName : String := "loop.example/g01923/impl.featureNames"
structure GTab (w : World) : Prop where
  feat : w.var? Tryd.prog featName = some (featL.map fun s => Value.string ⟨s.toArray⟩).toArray
  pow : Lib.TabIs Tryd.prog w "internal/strconv.uint64pow10" .u64 Lib.pow10Tab
  eS : ∃ t p, w.var? Tryd.prog "strconv.ErrSyntax" = some #[.iface t p]
  eR : ∃ t p, w.var? Tryd.prog "strconv.ErrRange" = some #[.iface t p]
  mx : ∃ m, w.cell? ⟨1, 0, none⟩ = some (.int .i64 m)
theorem var_fr {P : Program} {w w' : World} {n : String} {cs : Array Value} (h : w.var? P n = some cs) (hf : Fr w w') : w'.var? P n = some cs := by
  unfold World.var? at *
  cases hg : P.globalNamed n with
  | none => rw [hg] at h; cases h
  | some g =>
    rw [hg] at h
    simp only [Option.bind_some] at h ⊢
    have hlt : g < w.heap.size := by
      rcases Nat.lt_or_ge g w.heap.size with hlt | hge
      · exact hlt
      · rw [Array.getElem?_eq_none hge] at h
        cases h
    rw [hf.block g hlt]
    exact h
theorem GTab.fr {w w' : World} (h : GTab w) (hf : Fr w w') : GTab w' where
  feat := var_fr h.feat hf
  pow := var_fr h.pow hf
  eS := let ⟨t, p, e⟩ := h.eS; ⟨t, p, var_fr e hf⟩
  eR := let ⟨t, p, e⟩ := h.eR; ⟨t, p, var_fr e hf⟩
  mx := let ⟨m, e⟩ := h.mx; ⟨m, (hf.cell (p := ⟨1, 0, none⟩) (cell_lt' e)).trans e⟩
theorem var_cell {P : Program} {w : World} {n : String} {cs : Array Value} {g : Nat} (h : w.var? P n = some cs) (hg : P.globalNamed n = some g) {i : Nat} {v : Value} (hi : cs[i]? = some v) : w.cell? ⟨g, i, none⟩ = some v := by
  have := World.var?_cell hg h i
  rw [this, hi]
theorem cell_lt2 {w : World} {b o : Nat} {v : Value} (h : w.cell? ⟨b, o, none⟩ = some v) : b < w.heap.size := cell_lt' h
section
variable {P : Program} {R : Reg} {w : World} {d : Option Nat} {t : TypeId} {p : String} {af : Array Edge} {g : Option (Nat × Bool)}
theorem of_indexAddr_g {T e n gb : Nat} {ix : Operand} {k : IntKind} {i : Int} (hi : evalR R ix = .int k i) (hu : P.underlying T = some (.array n e)) (hsz : ∀ w, (sizeOf e).run P w = .ok 1 w) (hr : inR i n = true) :
    OpF P ⟨d, .indexAddr T (.global gb) ix, t, p, af, g⟩ R w (.raw (.pointer (some ⟨gb, i.toNat, none⟩))) := by
  obtain ⟨i0, i1⟩ := inR_iff.1 hr
  refine opr_val (v := .pointer (some ⟨gb, i.toNat, none⟩)) (w' := w) ?_ ⟨rfl, Fr.refl _⟩
  have hadd : ∀ j, (⟨gb, 0, none⟩ : Addr).add j = ⟨gb, j, none⟩ := fun j => by
    unfold Addr.add
    split
    · rename_i h; subst h; rfl
    · simp
  have hg' : evalR R (.global gb) = .pointer (some ⟨gb, 0, none⟩) := rfl
  simp [execOp, Instr.indexAt, Instr.sureAddr, hg', hi, asIntOf, underlying, hu, i0, i1, hsz, hadd]
end
end Go.Proofs.YtcodfkieaoomnaaDoor
