/- The law FnExactIsValidScoring returns true for every input and leaves what was in memory as it was. Conditions: none. -/
import Derived.Test.YtdjagnlmcponaaaFrame
import Derived.Test.YtdjagnlmcponaaaScor
import Derived.Deep.RegionHeld3
namespace Go.Proofs.Ytdjagnlmcponaaa
open Go.RowKit
namespace lawFnExactIsValidScoring
set_option linter.unusedVariables false
theorem walk (W : World) (l0 : List Value) (x0 : (List (Int)) × (Int)) (i0 : (st2R (slR 1 (intR)) (intR)) W W.heap.size x0 l0) :
    Calls Try.prog 12 #[.agg l0.toArray] W fun e w' => e = .returned (.bool true) ∧ Below W.heap.size W w' := by
  obtain ⟨v, u, rfl, h0, h1⟩ := i0
  obtain ⟨zs, b⟩ := x0
  have hu := h1.1
  simp only [List.cons.injEq, and_true] at hu
  subst hu
  clear h1
  obtain ⟨A, n, c, rfl⟩ : ∃ A n c, v = .slice A n c := by
    obtain ⟨A, n, c, _, e, _⟩ := h0
    simp only [List.cons.injEq, and_true] at e
    exact ⟨A, n, c, e⟩
  have hm := slR_le h0
  obtain ⟨hl, _, hr, _⟩ := slR_ints h0
  clear h0
  unfold maxLen at hm
  have HL := Lib.hid hl
  clear hl
  dsimp only at hr HL
  generalize hv : scorB zs b = z
  have HV := Lib.hid hv
  clear hv
  have HB_0 := Lib.hid ((Below.refl W.heap.size W).alloc (Nat.le_refl _) (.cells #[.slice A n c, .int .i64 b] 49))
  have r_0 := (hr.below HB_0.out).more HB_0.out.size
  have K_0 := Blk.new W 49 #[.slice A n c, .int .i64 b]
  clear hr
  by_cases hn : (1048576 : Int) < n
  case pos =>
    go_enter Try.func12, Try.ntmps12
    go_wp2_with fail
    refine (szScoring_any _ _ _ _ _ (by omega) (by omega) hm _).mono ?_
    rw [if_pos hn]
    rintro e w1 ⟨rfl, hb1⟩
    go_wp2_with fail
    go_ret
    exact ⟨rfl, HB_0.out.trans (hb1.mono HB_0.out.size)⟩
  have hn' : n ≤ 1048576 := by omega
  go_enter Try.func12, Try.ntmps12
  go_wp2_with fail
  refine (szScoring_any _ _ _ _ _ (by omega) (by omega) hm _).mono ?_
  rw [if_neg (by omega)]
  rintro e w1 ⟨rfl, hb1⟩
  have r_1 := (r_0.below hb1).more hb1.size
  have K_1 := K_0.below hb1 K_0.lt
  have HB_1 := Lib.hid (HB_0.out.trans (hb1.mono HB_0.out.size))
  clear r_0 K_0 HB_0 hb1
  have k0 := K_1.cell 0
  have k1 := K_1.cell 1
  simp only [List.getElem?_toArray, List.getElem?_cons_zero, List.getElem?_cons_succ] at k0 k1
  go_wp2_with fail
  refine (toScoring_any _ _ _ _ _ _ r_1 hn').mono ?_
  rintro e w2 ⟨g2, rfl, B_2, hg2, hb2⟩
  have r_2 := (r_1.below hb2).more hb2.size
  have K_2 := K_1.below hb2 K_1.lt
  have HB_2 := Lib.hid (HB_1.out.trans (hb2.mono HB_1.out.size))
  clear r_1 K_1 HB_1 hb2
  clear k0 k1
  go_wp2_with fail
  refine (sIsValidScoring_any _ _ _ _ _ _ (rd_new B_2 HL.out B_2.lt) hn').mono ?_
  rw [HV.out]
  rintro e w3 ⟨rfl, hb3⟩
  have r_3 := (r_2.below hb3).more hb3.size
  have K_3 := K_2.below hb3 K_2.lt
  have B_3 := B_2.below hb3 B_2.lt
  have HB_3 := Lib.hid (HB_2.out.trans (hb3.mono HB_2.out.size))
  clear r_2 K_2 B_2 HB_2 hb3
  clear B_3
  have k0 := K_3.cell 0
  have k1 := K_3.cell 1
  simp only [List.getElem?_toArray, List.getElem?_cons_zero, List.getElem?_cons_succ] at k0 k1
  go_wp2_with fail
  refine (toScoring_any _ _ _ _ _ _ r_3 hn').mono ?_
  rintro e w4 ⟨g4, rfl, D_4, hg4, hb4⟩
  have r_4 := (r_3.below hb4).more hb4.size
  have K_4 := K_3.below hb4 K_3.lt
  have HB_4 := Lib.hid (HB_3.out.trans (hb4.mono HB_3.out.size))
  clear r_3 K_3 HB_3 hb4
  clear k0 k1
  have X_5 := Blk.new w4 52 #[.slice (some ⟨g4, 0, none⟩) n n, .int .i64 b]
  have hb5 := (Below.refl w4.heap.size w4).alloc (Nat.le_refl _) (.cells #[.slice (some ⟨g4, 0, none⟩) n n, .int .i64 b] 52)
  have r_5 := (r_4.below hb5).more hb5.size
  have K_5 := K_4.below hb5 K_4.lt
  have D_5 := D_4.below hb5 D_4.lt
  have HB_5 := Lib.hid (HB_4.out.trans (hb5.mono HB_4.out.size))
  clear r_4 K_4 D_4 HB_4 hb5
  go_wp2_with fail
  refine (IsValidScoring_any _ _ _ _ _ _ (rd_new D_5 HL.out D_5.lt) hn').mono ?_
  rw [HV.out]
  rintro e w6 ⟨rfl, hb6⟩
  have r_6 := (r_5.below hb6).more hb6.size
  have K_6 := K_5.below hb6 K_5.lt
  have D_6 := D_5.below hb6 D_5.lt
  have X_6 := X_5.below hb6 X_5.lt
  have HB_6 := Lib.hid (HB_5.out.trans (hb6.mono HB_5.out.size))
  clear r_5 K_5 D_5 X_5 HB_5 hb6
  have k0 := K_6.cell 0
  have k1 := K_6.cell 1
  simp only [List.getElem?_toArray, List.getElem?_cons_zero, List.getElem?_cons_succ] at k0 k1
  have x0 := X_6.cell 0
  have x1 := X_6.cell 1
  simp only [List.getElem?_toArray, List.getElem?_cons_zero, List.getElem?_cons_succ] at x0 x1
  go_wp2_with fail
  go_region_held3 (fun w' => w'.cell? ⟨W.heap.size, 0, none⟩ = some (.slice A n c) ∧ w'.cell? ⟨W.heap.size, 1, none⟩ = some (.int .i64 b) ∧ w'.cell? ⟨w4.heap.size, 0, none⟩ = some (.slice (some ⟨g4, 0, none⟩) n n) ∧ w'.cell? ⟨w4.heap.size, 1, none⟩ = some (.int .i64 b))
    (first | exact ⟨k0, k1, x0, x1⟩ | exact ⟨K7.cell 0, K7.cell 1, X7.cell 0, X7.cell 1⟩ | exact ⟨K8.cell 0, K8.cell 1, X8.cell 0, X8.cell 1⟩)
    (first
      | (go_at_call 40; refine (toScoring_any _ _ _ zs _ _ (by exact r_6) hn').mono ?_; rintro e w7 ⟨g7, rfl, hB7, hg7, hb7⟩; have K7 := K_6.drew.below hb7 K_6.lt; have X7 := X_6.drew.below hb7 X_6.lt; have hD7 := D_6.drew.below hb7 D_6.lt)
      | (go_at_call 42; refine (eqScoring_any _ _ _ _ _ _ _ _ _ _ _ (rd_new hD7 HL.out hD7.lt) (rd_new hB7 HL.out hB7.lt) hn' hn').mono ?_; rw [decide_eq_true ⟨rfl, rfl⟩]; rintro e w8 ⟨rfl, hb8⟩; have K8 := K7.below hb8 K7.lt; have X8 := X7.below hb8 X7.lt))
  have HBF := Lib.hid ((HB_6.out.drew.trans (hb7.mono HB_6.out.size)).trans (hb8.mono (by have := HB_6.out.size; have := hb7.size; exact Nat.le_trans HB_6.out.size hb7.size)))
  clear k0 k1 x0 x1 hb7 hb8 K7 X7 hD7 K8 X8 hB7
  go_wp2_with fail
  go_ret
  exact ⟨rfl, HBF.out⟩

open Go.ChangeShapes Go.WideShapes Go.ChangeAt Go.RowKit
open Go.ChangeMaps (open_string shut_string)
set_option linter.unusedVariables false

set_option maxRecDepth 100000 in
theorem lifted (os : Os) (started : os.Started) (H : Type) (enc : TypeId × Value → H) :
    ReturnsInHanded {} Try.checked os 12 .any (Rows.fnExactIsValidScoringSpec.pre6 enc Try.prog Try.f12 Rows.fnExactIsValidScoringRow.domain false) (Rows.fnExactIsValidScoringSpec.post enc Try.prog Try.f12 false true false false) := by
  refine returnsInHanded_of_change (C := Try.checked) own started (by kernel_rfl) Try.func12
    (ChangeSpec.witness6 (enc := enc) (C := Try.checked) false ⟨#[], #[.agg #[.slice none 0 0, .int .i64 0]], []⟩ 8 (by kernel_rfl) (by kernel_rfl) (by kernel_rfl) (by kernel_rfl)) ?_
  intro W base args ds gs before hval0 hW hcnd _
  have hval : ∀ (j : Nat) t v, Try.f12.params[j]? = some t → args[j]? = some v → Value.okWide Try.prog W .any base t v := hval0
  have hW' := hW
  have hltp := fun p hp => hW.lt p hp
  obtain ⟨p, q, hA0, hV, rfl, hfz, hnd⟩ := hW
  have hA : DataW.TrodAll enc Try.prog W 0 (fun _ => true) true Try.f12.params.toList args.toList ds p := hA0
  rw [Try.params12] at hA hval
  obtain ⟨v0, vs0, d0, ds0, p0, q0, hargs, rfl, rfl, h0, r0⟩ := trodAll_cons hA
  obtain ⟨rfl, rfl, rfl⟩ := trodAll_nil r0
  obtain rfl : args = #[v0] := by cases args; simp_all
  obtain ⟨rfl, rfl⟩ := trodVars_none hV
  have k0 := h0
  have lt0 : ∀ x ∈ p0, x.block < W.heap.size := by obtain ⟨m, hm⟩ := k0; exact DataW.trod_lt m _ _ _ hm
  obtain ⟨l0, x0, rfl, i0⟩ := arg_struct Try.underlying49 (opens_st2 Try.underlying49 (by kernel_rfl) (by kernel_rfl) (opens_slice (k := 1) Try.underlying29 (by kernel_rfl) (by decide) (opens_int Try.underlying3)) (opens_int Try.underlying3)) (hval 0 49 v0 rfl rfl) h0
  clear hA0 hval0
  refine (walk W l0 x0 i0).mono fun e W' ⟨he, bel⟩ => ?_
  subst he
  exact ⟨_, rfl, _, _, _, [], _, [], hW', trodAll_mk1 (shut_bool Try.underlying4 _), (trodAll_cons_mk (Below.trod laidOut (by kernel_rfl) (of_decide_eq_true (by kernel_rfl)) k0 bel lt0) trodAll_mk0), rfl, bel.frame _, fun h => by cases h⟩

theorem over : Rows.fnExactIsValidScoringRow.holds Try.pinned (OpenSpec.ofChange Rows.fnExactIsValidScoringSpec) :=
  OpenClaim.holds_of_wide 12 Try.f12 rfl rfl rfl rfl rfl rfl rfl ⟨rfl, rfl, rfl, rfl, rfl⟩ rfl rfl rfl rfl rfl (by kernel_rfl) Try.func12 (by kernel_rfl)
    (of_decide_eq_true (by kernel_rfl)) (by unfold Func.isWrapper; first | (rw [if_pos (by decide +kernel)]; kernel_rfl) | (rw [if_neg (by decide +kernel)]; exact ⟨rfl, rfl⟩))
    (fun os started H enc _ => lifted os started H enc)

/-- the given statement -/
theorem proved : Rows.FnExactIsValidScoringSaid := over
end lawFnExactIsValidScoring
end Go.Proofs.Ytdjagnlmcponaaa
