/- From the row's list of package variables to the tables that the walk reads. No statement of the seat is proved here. -/
import Derived.Test.YtjdnomcpepbdaaaDoorGt
import Derived.Test.YtjdnomcpepbdaaaDoorRep
import Derived.Lib.LaidTab
import Derived.ChangeArms
import Derived.MakeChecks
namespace Go.Proofs.YtjdnomcpepbdaaaDoor
open Go.RowKit

theorem strs_of_tab {H : Type} {enc : TypeId × Value → H} {P : Program} {w : World} {base : Nat} {sp : Nat → Bool} {held : Bool} {fuel : Nat} {t e : TypeId} {n : Nat} {cs : List Value} {ss : List (List UInt8)} {p : List MemPlace}
    (ht : P.underlying t = some (.array n e)) (he : P.underlying e = some .string) (hce : P.cellsOf e = 1) (hct : P.cellsOf t = n)
    (h : DataW.trod enc P w base sp held fuel t cs = some (.agg (ss.map fun s => (.lit (.string s) : DataW H)), p)) : cs = ss.map fun s => Value.string ⟨s.toArray⟩ := by
  cases fuel with
  | zero => simp [DataW.trod] at h
  | succ fuel =>
    simp only [DataW.trod, ht, hce, hct, Nat.mul_one] at h
    split at h
    · rename_i hl
      obtain ⟨xs, hm, hx⟩ := Option.map_eq_some_iff.1 h
      have hxs : xs.map (·.1) = ss.map fun s => (DataW.lit (.string s) : DataW H) := by
        have := congrArg Prod.fst hx
        simpa using this
      have hxl : xs.length = n := by simpa using Lib.mapM_length hm
      have hzl : ss.length = n := by
        have := congrArg List.length hxs
        simp at this
        omega
      apply List.ext_getElem?
      intro i
      by_cases hi : i < n
      · obtain ⟨b, hb, hf⟩ := Lib.mapM_at hm i i (by simp [hi])
        obtain ⟨s, hc, rfl, _⟩ := DataW.trod_string he hf
        have h1 : cs[i]? = some (.string s) := by
          have := congrArg (·[0]?) hc
          simpa [List.getElem?_take, List.getElem?_drop] using this
        have h2 : (xs.map (·.1))[i]? = some (DataW.lit (.string s.data.toList) : DataW H) := by simp [hb]
        rw [hxs] at h2
        simp only [List.getElem?_map, Option.map_eq_some_iff, DataW.lit.injEq, Lit.string.injEq] at h2
        obtain ⟨z, hz, rfl⟩ := h2
        simp only [h1, List.getElem?_map, hz, Option.map_some]
      · rw [List.getElem?_eq_none (by omega), List.getElem?_eq_none (by simp; omega)]
    · cases h
theorem laidVar_at {P : Program} {w : World} : ∀ (l : List (String × DataW Unit)) (ps : List MemPlace), DataW.LaidVars P w l ps → ∀ (i : Nat) n d, l[i]? = some (n, d) →
    ∃ g t cs fuel p, P.globalNamed n = some g ∧ (P.globals[g]?).map (·.type) = some t ∧ w.var? P n = some cs ∧ DataW.trod (fun _ => ()) P w 0 (fun _ => true) false fuel t cs.toList = some (d, p)
  | [], _, _, i, n, d, hi => by simp at hi
  | (n', d') :: r, ps, h, 0, n, d, hi => by
    obtain ⟨g, t, cs, fuel, p, q, h1, h2, h3, h4, _, _⟩ := h
    simp only [List.getElem?_cons_zero, Option.some.injEq, Prod.mk.injEq] at hi
    obtain ⟨rfl, rfl⟩ := hi
    exact ⟨g, t, cs, fuel, p, h1, h2, h3, h4⟩
  | (n', d') :: r, ps, h, i + 1, n, d, hi => by
    obtain ⟨g, t, cs, fuel, p, q, _, _, _, _, h5, _⟩ := h
    exact laidVar_at r q h5 i n d (by simpa using hi)
theorem tFeatG : (Tryd.prog.globals[0]?).map (·.type) = some 58 := by kernel_rfl
theorem cFeatG : Tryd.prog.cellsOf 58 = 6 := by kernel_rfl
theorem cStrG : Tryd.prog.cellsOf 9 = 1 := by kernel_rfl
theorem gPowG : Tryd.prog.globalNamed "internal/strconv.uint64pow10" = some 4 := by kernel_rfl
theorem tPowG : (Tryd.prog.globals[4]?).map (·.type) = some 157 := by kernel_rfl
theorem cPowG : Tryd.prog.cellsOf 157 = 20 := by kernel_rfl
theorem cU64G : Tryd.prog.cellsOf 142 = 1 := by kernel_rfl
theorem gtab_of {l : List (String × DataW Unit)} {W : World} (h : laidMet Tryd.prog l W) (i j : Nat) (h1 : l[i]? = some (featName, .agg (featL.map fun s => .lit (.string s)))) (h2 : l[j]? = some ("internal/strconv.uint64pow10", Lib.tabData .u64 Lib.pow10Tab)) : GTab W := by
  obtain ⟨ps, hl, _⟩ := h
  refine ⟨?_, ?_⟩
  · obtain ⟨g, t, cs, fuel, p, hg, ht, hv, hd⟩ := laidVar_at l ps hl i _ _ h1
    obtain rfl := Option.some.inj (gFeat.symm.trans hg)
    obtain rfl := Option.some.inj (tFeatG.symm.trans ht)
    rw [hv, ← strs_of_tab Tryd.underlying58 Tryd.underlying9 cStrG cFeatG hd]
  · obtain ⟨g, t, cs, fuel, p, hg, ht, hv, hd⟩ := laidVar_at l ps hl j _ _ h2
    obtain rfl := Option.some.inj (gPowG.symm.trans hg)
    obtain rfl := Option.some.inj (tPowG.symm.trans ht)
    unfold Lib.TabIs
    rw [hv, ← Lib.cells_of_tab Tryd.underlying157 Tryd.underlying142 cU64G cPowG hd]
end Go.Proofs.YtjdnomcpepbdaaaDoor
