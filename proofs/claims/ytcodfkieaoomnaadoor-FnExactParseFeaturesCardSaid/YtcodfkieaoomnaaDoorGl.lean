/- From the row's list of package variables to the tables that the walk reads. No statement of the seat is proved here. -/
import Derived.Test.YtcodfkieaoomnaaDoorGv
import Derived.Stop.LaidErr
import Derived.Shelf.LaysM
import Derived.Test.YtcodfkieaoomnaaDoorRep
import Derived.Lib.LaidTab
import Derived.ChangeArms
import Derived.MakeChecks
namespace Go.Proofs.YtcodfkieaoomnaaDoor
open Go.RowKit
set_option linter.unusedVariables false

theorem strs_of_tab {H : Type} {enc : TypeId × Value → H} {P : Program} {w : World} {base : Nat} {sp : Nat → Bool} {held : Bool} {fuel : Nat} {t e : TypeId} {n : Nat} {cs : List Value} {ss : List (List UInt8)} {p : List MemPlace}
    (ht : P.underlying t = some (.array n e)) (he : P.underlying e = some .string) (hce : P.cellsOf e = 1) (hct : P.cellsOf t = n)
    (h : DataW.trod enc P w base sp held fuel t cs = some (.agg (ss.map fun s => (.lit (.string s) : DataW H)), p)) : cs = ss.map fun s => Value.string ⟨s.toArray⟩ := by
  cases fuel with
  | zero => simp [DataW.trod] at h
  | succ fuel =>
    simp only [DataW.trod, ht, hce, hct, Nat.mul_one] at h
    split at h
    · rename_i hl
      obtain ⟨xs, hm, hx⟩ := Option.map_eq_some_iff.1 h
      have hxs : xs.map (·.1) = ss.map fun s => (DataW.lit (.string s) : DataW H) := by
        have := congrArg Prod.fst hx
        simpa using this
      have hxl : xs.length = n := by simpa using Lib.mapM_length hm
      have hzl : ss.length = n := by
        have := congrArg List.length hxs
        simp at this
        omega
      apply List.ext_getElem?
      intro i
      by_cases hi : i < n
      · obtain ⟨b, hb, hf⟩ := Lib.mapM_at hm i i (by simp [hi])
        obtain ⟨s, hc, rfl, _⟩ := DataW.trod_string he hf
        have h1 : cs[i]? = some (.string s) := by
          have := congrArg (·[0]?) hc
          simpa [List.getElem?_take, List.getElem?_drop] using this
        have h2 : (xs.map (·.1))[i]? = some (DataW.lit (.string s.data.toList) : DataW H) := by simp [hb]
        rw [hxs] at h2
        simp only [List.getElem?_map, Option.map_eq_some_iff, DataW.lit.injEq, Lit.string.injEq] at h2
        obtain ⟨z, hz, rfl⟩ := h2
        simp only [h1, List.getElem?_map, hz, Option.map_some]
      · rw [List.getElem?_eq_none (by omega), List.getElem?_eq_none (by simp; omega)]
    · cases h
theorem laidVar_at {P : Program} {w : World} : ∀ (l : List (String × DataW Unit)) (ps : List MemPlace), DataW.LaidVars P w l ps → ∀ (i : Nat) n d, l[i]? = some (n, d) →
    ∃ g t cs fuel p, P.globalNamed n = some g ∧ (P.globals[g]?).map (·.type) = some t ∧ w.var? P n = some cs ∧ DataW.trod (fun _ => ()) P w 0 (fun _ => true) false fuel t cs.toList = some (d, p)
  | [], _, _, i, n, d, hi => by simp at hi
  | (n', d') :: r, ps, h, 0, n, d, hi => by
    obtain ⟨g, t, cs, fuel, p, q, h1, h2, h3, h4, _, _⟩ := h
    simp only [List.getElem?_cons_zero, Option.some.injEq, Prod.mk.injEq] at hi
    obtain ⟨rfl, rfl⟩ := hi
    exact ⟨g, t, cs, fuel, p, h1, h2, h3, h4⟩
  | (n', d') :: r, ps, h, i + 1, n, d, hi => by
    obtain ⟨g, t, cs, fuel, p, q, _, _, _, _, h5, _⟩ := h
    exact laidVar_at r q h5 i n d (by simpa using hi)
theorem drop_laid {P : Program} {W : World} : ∀ (i : Nat) (l : List (String × DataW Unit)), laidMet P l W → laidMet P (l.drop i) W
  | 0, l, h => h
  | i + 1, [], h => h
  | i + 1, x :: l, h => drop_laid i l h.tail
theorem drop_at {α : Type} : ∀ (i : Nat) (l : List α) (x : α), l[i]? = some x → ∃ r, l.drop i = x :: r
  | 0, y :: l, x, h => by simp at h; subst h; exact ⟨l, rfl⟩
  | i + 1, y :: l, x, h => drop_at i l x (by simpa using h)
  | 0, [], x, h => by simp at h
  | i + 1, [], x, h => by simp at h
theorem gFeat' : Tryd.prog.globalNamed featName = some 0 := by kernel_rfl
theorem tFeatG : (Tryd.prog.globals[0]?).map (·.type) = some 62 := by kernel_rfl
theorem cFeatG : Tryd.prog.cellsOf 62 = 6 := by kernel_rfl
theorem cStrG : Tryd.prog.cellsOf 9 = 1 := by kernel_rfl
theorem gPowG : Tryd.prog.globalNamed "internal/strconv.uint64pow10" = some 6 := by kernel_rfl
theorem tPowG : (Tryd.prog.globals[6]?).map (·.type) = some 124 := by kernel_rfl
theorem cPowG : Tryd.prog.cellsOf 124 = 20 := by kernel_rfl
theorem cU64G : Tryd.prog.cellsOf 99 = 1 := by kernel_rfl
theorem gESG : Tryd.prog.globalNamed "strconv.ErrSyntax" = some 2 := by kernel_rfl
theorem gERG : Tryd.prog.globalNamed "strconv.ErrRange" = some 3 := by kernel_rfl
theorem tESG : (Tryd.prog.globals[2]?).map (·.type) = some 58 := by kernel_rfl
theorem tERG : (Tryd.prog.globals[3]?).map (·.type) = some 58 := by kernel_rfl
theorem starG : "*" ++ "errors.errorString" = "*errors.errorString" := by decide
theorem rowErrG (u : TypeId) (h : Tryd.prog.typeName? 3 u = some "*errors.errorString") : u = 115 :=
  typeName_ptr_named (nm := "errors.errorString") (by rw [starG]; kernel_rfl) (by kernel_rfl) (by decide) u (by rw [starG]; exact h)
theorem cErrG : Tryd.prog.cellsOf 117 = 1 := by kernel_rfl
theorem err_of {l : List (String × DataW Unit)} {W : World} {n : String} {g : Nat} {text : List UInt8} (h : laidMet Tryd.prog l W) (i : Nat) (hi : l[i]? = some (n, .iface "*errors.errorString" (.ptr (.agg [.lit (.string text)])))) (hg : Tryd.prog.globalNamed n = some g) (ht : (Tryd.prog.globals[g]?).map (·.type) = some 58) : ∃ t p, W.var? Tryd.prog n = some #[.iface t p] := by
  obtain ⟨r, hr⟩ := drop_at i l _ hi
  have h2 := hr ▸ drop_laid i l h
  obtain ⟨a, s, hv, _⟩ := laid_sentinel h2 hg ht Tryd.underlying58 rowErrG Tryd.underlying115 Tryd.underlying117 rfl rfl Tryd.underlying9 cErrG cStrG
  exact ⟨_, _, hv⟩
theorem gtab_of {l : List (String × DataW Unit)} {W : World} (h : laidMet Tryd.prog l W) (hSh : W.ShapedOpen Tryd.prog) (i j k q : Nat) (h1 : l[i]? = some (featName, .agg (featL.map fun s => .lit (.string s)))) (h2 : l[j]? = some ("internal/strconv.uint64pow10", Lib.tabData .u64 Lib.pow10Tab))
    (h3 : l[k]? = some ("strconv.ErrSyntax", .iface "*errors.errorString" (.ptr (.agg [.lit (.string [105, 110, 118, 97, 108, 105, 100, 32, 115, 121, 110, 116, 97, 120])])))) (h4 : l[q]? = some ("strconv.ErrRange", .iface "*errors.errorString" (.ptr (.agg [.lit (.string [118, 97, 108, 117, 101, 32, 111, 117, 116, 32, 111, 102, 32, 114, 97, 110, 103, 101])])))) : GTab W := by
  have h0 := h
  obtain ⟨ps, hl, _⟩ := h
  exact {
    feat := by
      obtain ⟨g, t, cs, fuel, p, hg, ht, hv, hd⟩ := laidVar_at l ps hl i _ _ h1
      obtain rfl := Option.some.inj (gFeat'.symm.trans hg)
      obtain rfl := Option.some.inj (tFeatG.symm.trans ht)
      rw [hv, ← strs_of_tab Tryd.underlying62 Tryd.underlying9 cStrG cFeatG hd]
    pow := by
      obtain ⟨g, t, cs, fuel, p, hg, ht, hv, hd⟩ := laidVar_at l ps hl j _ _ h2
      obtain rfl := Option.some.inj (gPowG.symm.trans hg)
      obtain rfl := Option.some.inj (tPowG.symm.trans ht)
      unfold Lib.TabIs
      rw [hv, ← Lib.cells_of_tab Tryd.underlying124 Tryd.underlying99 cU64G cPowG hd]
    eS := err_of h0 k h3 gESG tESG
    eR := err_of h0 q h4 gERG tERG
    mx := Tryd.laysMax.s1_3 W hSh
  }
end Go.Proofs.YtcodfkieaoomnaaDoor
