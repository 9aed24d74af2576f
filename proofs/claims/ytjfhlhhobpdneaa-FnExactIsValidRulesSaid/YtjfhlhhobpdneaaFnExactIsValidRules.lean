/- The law FnExactIsValidRules returns true for every input and leaves what was in memory as it was. Conditions: none. -/
import Derived.Test.YtjfhlhhobpdneaaFrame
import Derived.Test.YtjfhlhhobpdneaaRs
import Derived.Test.YtjfhlhhobpdneaaVri
import Derived.Deep.RegionHeld3
namespace Go.Proofs.Ytjfhlhhobpdneaa
open Go.RowKit
namespace lawFnExactIsValidRules
set_option linter.unusedVariables false
set_option linter.unusedSimpArgs false
set_option maxRecDepth 100000 in
set_option maxHeartbeats 1000000 in
theorem walk (W : World) (l0 : List Value) (x0 : (List ((List ((Int) × (Int) × (Bool)))))) (i0 : (st1R (slR 1 (st1R (slR 3 (st3R (intR) (intR) (boolR)))))) W W.heap.size x0 l0) :
    Calls Try.prog 6 #[.agg l0.toArray] W fun e w' => e = .returned (.bool true) ∧ Below W.heap.size W w' := by
  obtain ⟨v, rfl, h0⟩ := i0
  obtain ⟨A0, n0, c0, rfl⟩ : ∃ A n c, v = .slice A n c := by
    obtain ⟨A, n, c, _, e, _⟩ := h0
    simp only [List.cons.injEq, and_true] at e
    exact ⟨A, n, c, e⟩
  obtain ⟨hr0, hm0, hs0⟩ := slR_nest cte h0 (fun _ _ _ _ h => slR_te h)
  clear h0
  have hz0 := hr0.len
  have HL0 := Lib.hid hz0
  clear hz0
  generalize hv : rsOk x0 = z
  have HV := Lib.hid hv
  clear hv
  have hx0 := (Below.refl (W).heap.size (W)).alloc (Nat.le_refl _) (.cells #[.slice A0 n0 c0] 57)
  have HB_0 := Lib.hid hx0
  clear hx0
  have r0_0 := (hr0.below HB_0.out).more HB_0.out.size
  clear hr0
  have K0_0 := Blk.new W 57 #[.slice A0 n0 c0]
  go_enter Try.func6, Try.ntmps6
  go_wp2_with fail
  refine (szRuleSet_any A0 n0 c0 x0 _ (by omega) (by omega) _ r0_0 hs0 hm0).mono ?_
  rintro e w1 ⟨⟨r, rfl, hrr⟩, hb1⟩
  have r0_1 := (r0_0.below hb1).more hb1.size
  have K0_1 := K0_0.below hb1 K0_0.lt
  have HB_1 := Lib.hid (HB_0.out.trans (hb1.mono HB_0.out.size))
  clear r0_0 K0_0 HB_0 hb1
  by_cases hrq : r < 0
  case pos =>
    go_wp2_with fail
    go_ret
    exact ⟨rfl, HB_1.out⟩
  obtain ⟨hn0, ht0⟩ := sz_bounds HL0.out (hrr (by omega)) (by omega)
  clear hrr hs0 hm0
  have HRQ := Lib.hid hrq
  clear hrq
  have hrq : decide (r < 0) = false := decide_eq_false HRQ.out
  have k00 := K0_1.cell 0
  simp only [List.getElem?_toArray, List.getElem?_cons_zero, List.getElem?_cons_succ] at k00
  go_wp2_with fail
  refine (toRuleSet_rls A0 n0 c0 x0 _ r0_1 hn0 ht0).mono ?_
  rintro e w2 ⟨g2, rfl, S0_2, hg2, hb2⟩
  have r0_2 := (r0_1.below hb2).more hb2.size
  have K0_2 := K0_1.below hb2 K0_1.lt
  have HB_2 := Lib.hid (HB_1.out.trans (hb2.mono HB_1.out.size))
  clear r0_1 K0_1 HB_1 hb2
  clear k00
  go_wp2_with fail
  refine (sIsValidRules_any _ _ _ x0 _ S0_2 hn0 ht0).mono ?_
  rw [HV.out]
  rintro e w3 ⟨rfl, hb3⟩
  have r0_3 := (r0_2.below hb3).more hb3.size
  have K0_3 := K0_2.below hb3 K0_2.lt
  have S0_3 := (S0_2.below hb3).more hb3.size
  have HB_3 := Lib.hid (HB_2.out.trans (hb3.mono HB_2.out.size))
  clear r0_2 K0_2 S0_2 HB_2 hb3
  clear S0_3
  have k00 := K0_3.cell 0
  simp only [List.getElem?_toArray, List.getElem?_cons_zero, List.getElem?_cons_succ] at k00
  go_wp2_with fail
  refine (toRuleSet_rls A0 n0 c0 x0 _ r0_3 hn0 ht0).mono ?_
  rintro e w4 ⟨g4, rfl, X0_4, hg4, hb4⟩
  have r0_4 := (r0_3.below hb4).more hb4.size
  have K0_4 := K0_3.below hb4 K0_3.lt
  have HB_4 := Lib.hid (HB_3.out.trans (hb4.mono HB_3.out.size))
  clear r0_3 K0_3 HB_3 hb4
  clear k00
  go_wp2_with fail
  have M0_5 := Blk.new w4 62 #[.slice (some ⟨g4, 0, none⟩) n0 n0]
  have hb5 := (Below.refl w4.heap.size w4).alloc (Nat.le_refl _) (.cells #[.slice (some ⟨g4, 0, none⟩) n0 n0] 62)
  have r0_5 := (r0_4.below hb5).more hb5.size
  have K0_5 := K0_4.below hb5 K0_4.lt
  have X0_5 := (X0_4.below hb5).more hb5.size
  have HB_5 := Lib.hid (HB_4.out.trans (hb5.mono HB_4.out.size))
  clear r0_4 K0_4 X0_4 HB_4 hb5
  generalize w4.alloc (.cells #[.slice (some ⟨g4, 0, none⟩) n0 n0] 62) = w5 at *
  have m00 := M0_5.cell 0
  simp only [List.getElem?_toArray, List.getElem?_cons_zero, List.getElem?_cons_succ] at m00
  go_wp2_with fail
  refine (IsValidRules_any _ _ _ x0 _ X0_5 hn0 ht0).mono ?_
  rw [HV.out]
  rintro e w6 ⟨rfl, hb6⟩
  have r0_6 := (r0_5.below hb6).more hb6.size
  have K0_6 := K0_5.below hb6 K0_5.lt
  have X0_6 := (X0_5.below hb6).more hb6.size
  have M0_6 := M0_5.below hb6 M0_5.lt
  have HB_6 := Lib.hid (HB_5.out.trans (hb6.mono HB_5.out.size))
  clear r0_5 K0_5 X0_5 M0_5 HB_5 hb6
  clear m00
  have m00 := M0_6.cell 0
  simp only [List.getElem?_toArray, List.getElem?_cons_zero, List.getElem?_cons_succ] at m00
  have k00 := K0_6.cell 0
  simp only [List.getElem?_toArray, List.getElem?_cons_zero, List.getElem?_cons_succ] at k00
  go_wp2_with fail
  go_region_held3 (fun w' => w'.cell? ⟨w4.heap.size, 0, none⟩ = some (.slice (some ⟨g4, 0, none⟩) n0 n0) ∧ w'.cell? ⟨W.heap.size, 0, none⟩ = some (.slice A0 n0 c0))
    (first | exact ⟨m00, k00⟩ | exact ⟨M0_7.cell 0, K0_7.cell 0⟩ | exact ⟨M0_8.cell 0, K0_8.cell 0⟩)
    (first
      | (go_at_call 34; ((with_reducible refine (toRuleSet_rls A0 n0 c0 x0 _ r0_6.drew1 hn0 ht0).mono ?_); rintro e w7 ⟨g7, rfl, E0_7, hg7, hb7⟩; have r0_7 := (r0_6.drew1.below hb7).more hb7.size; have K0_7 := K0_6.drew.below hb7 K0_6.lt; have X0_7 := (X0_6.drew1.below hb7).more hb7.size; have M0_7 := M0_6.drew.below hb7 M0_6.lt; have HB_7 := Lib.hid (HB_6.out.drew.trans (hb7.mono HB_6.out.drew.size))))
      | (go_at_call 36; ((with_reducible refine (eqRuleSet_any _ _ _ _ _ _ _ _ _ X0_7 E0_7 hn0 ht0 ht0).mono ?_); rw [decide_eq_true rfl]; rintro e w8 ⟨rfl, hb8⟩; have r0_8 := (r0_7.below hb8).more hb8.size; have K0_8 := K0_7.below hb8 K0_7.lt; have X0_8 := (X0_7.below hb8).more hb8.size; have M0_8 := M0_7.below hb8 M0_7.lt; have E0_8 := (E0_7.below hb8).more hb8.size; have HB_8 := Lib.hid (HB_7.out.trans (hb8.mono HB_7.out.size)))))
  clear r0_6 K0_6 X0_6 M0_6 HB_6 hb7 r0_7 K0_7 X0_7 M0_7 E0_7 hb8 HB_7 m00 k00
  clear E0_8
  go_wp2_with fail
  go_ret
  exact ⟨rfl, HB_8.out⟩

open Go.ChangeShapes Go.WideShapes Go.ChangeAt Go.RowKit
open Go.ChangeMaps (open_string shut_string)
set_option linter.unusedVariables false

set_option maxRecDepth 100000 in
theorem lifted (os : Os) (started : os.Started) (H : Type) (enc : TypeId × Value → H) :
    ReturnsInHanded {} Try.checked os 6 .any (Rows.fnExactIsValidRulesSpec.pre6 enc Try.prog Try.f6 Rows.fnExactIsValidRulesRow.domain false) (Rows.fnExactIsValidRulesSpec.post enc Try.prog Try.f6 false true false false) := by
  refine returnsInHanded_of_change (C := Try.checked) own started (by kernel_rfl) Try.func6
    (ChangeSpec.witness6 (enc := enc) (C := Try.checked) false ⟨#[], #[.agg #[.slice none 0 0]], []⟩ 8 (by kernel_rfl) (by kernel_rfl) (by kernel_rfl) (by kernel_rfl)) ?_
  intro W base args ds gs before hval0 hW hcnd _
  have hval : ∀ (j : Nat) t v, Try.f6.params[j]? = some t → args[j]? = some v → Value.okWide Try.prog W .any base t v := hval0
  have hW' := hW
  have hltp := fun p hp => hW.lt p hp
  obtain ⟨p, q, hA0, hV, rfl, hfz, hnd⟩ := hW
  have hA : DataW.TrodAll enc Try.prog W 0 (fun _ => true) true Try.f6.params.toList args.toList ds p := hA0
  rw [Try.params6] at hA hval
  obtain ⟨v0, vs0, d0, ds0, p0, q0, hargs, rfl, rfl, h0, r0⟩ := trodAll_cons hA
  obtain ⟨rfl, rfl, rfl⟩ := trodAll_nil r0
  obtain rfl : args = #[v0] := by cases args; simp_all
  obtain ⟨rfl, rfl⟩ := trodVars_none hV
  have k0 := h0
  have lt0 : ∀ x ∈ p0, x.block < W.heap.size := by obtain ⟨m, hm⟩ := k0; exact DataW.trod_lt m _ _ _ hm
  obtain ⟨l0, x0, rfl, i0⟩ := arg_struct Try.underlying57 (opens_st1 Try.underlying57 (by kernel_rfl) (by kernel_rfl) (opens_slice (k := 1) Try.underlying55 (by kernel_rfl) (by decide) (opens_st1 Try.underlying24 (by kernel_rfl) (by kernel_rfl) (opens_slice (k := 3) Try.underlying22 (by kernel_rfl) (by decide) (opens_st3 Try.underlying133 (by kernel_rfl) (by kernel_rfl) (opens_int Try.underlying3) (opens_int Try.underlying3) (opens_bool Try.underlying4)))))) (hval 0 57 v0 rfl rfl) h0
  clear hA0 hval0
  refine (walk W l0 x0 i0).mono fun e W' ⟨he, bel⟩ => ?_
  subst he
  exact ⟨_, rfl, _, _, _, [], _, [], hW', trodAll_mk1 (shut_bool Try.underlying4 _), (trodAll_cons_mk (Below.trod laidOut (by kernel_rfl) (of_decide_eq_true (by kernel_rfl)) k0 bel lt0) trodAll_mk0), rfl, bel.frame _, fun h => by cases h⟩

theorem over : Rows.fnExactIsValidRulesRow.holds Try.pinned (OpenSpec.ofChange Rows.fnExactIsValidRulesSpec) :=
  OpenClaim.holds_of_wide 6 Try.f6 rfl rfl rfl rfl rfl rfl rfl ⟨rfl, rfl, rfl, rfl, rfl⟩ rfl rfl rfl rfl rfl (by kernel_rfl) Try.func6 (by kernel_rfl)
    (of_decide_eq_true (by kernel_rfl)) (by unfold Func.isWrapper; first | (rw [if_pos (by decide +kernel)]; kernel_rfl) | (rw [if_neg (by decide +kernel)]; exact ⟨rfl, rfl⟩))
    (fun os started H enc _ => lifted os started H enc)

/-- the given statement -/
theorem proved : Rows.FnExactIsValidRulesSaid := over
end lawFnExactIsValidRules
end Go.Proofs.Ytjfhlhhobpdneaa
