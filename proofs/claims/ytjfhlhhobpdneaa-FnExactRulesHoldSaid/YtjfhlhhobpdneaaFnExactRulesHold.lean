/- The law FnExactRulesHold returns true for every input and leaves what was in memory as it was. Conditions: none. -/
import Derived.Test.YtjfhlhhobpdneaaFrame
import Derived.Test.YtjfhlhhobpdneaaRs
import Derived.Test.YtjfhlhhobpdneaaRh
import Derived.Deep.RegionHeld3
namespace Go.Proofs.Ytjfhlhhobpdneaa
open Go.RowKit
namespace lawFnExactRulesHold
set_option linter.unusedVariables false
set_option linter.unusedSimpArgs false
set_option maxRecDepth 100000 in
set_option maxHeartbeats 1000000 in
theorem walk (W : World) (l0 : List Value) (x0 : (List ((List ((Int) × (Int) × (Bool)))))) (i0 : (st1R (slR 1 (st1R (slR 3 (st3R (intR) (intR) (boolR)))))) W W.heap.size x0 l0) (A1 : Option Addr) (n1 c1 : Nat) (l1 : List (Int)) (i1 : slR 1 (intR) W W.heap.size l1 [.slice A1 n1 c1]) :
    Calls Try.prog 10 #[.agg l0.toArray, .slice A1 n1 c1] W fun e w' => e = .returned (.bool true) ∧ Below W.heap.size W w' := by
  obtain ⟨v, rfl, h0⟩ := i0
  obtain ⟨A0, n0, c0, rfl⟩ : ∃ A n c, v = .slice A n c := by
    obtain ⟨A, n, c, _, e, _⟩ := h0
    simp only [List.cons.injEq, and_true] at e
    exact ⟨A, n, c, e⟩
  obtain ⟨hr0, hm0, hs0⟩ := slR_nest cte h0 (fun _ _ _ _ h => slR_te h)
  clear h0
  have hz0 := hr0.len
  have HL0 := Lib.hid hz0
  clear hz0
  obtain ⟨hl1, _, hr1, _⟩ := slR_ints i1
  have HL1 := Lib.hid hl1
  clear i1 hl1
  generalize hv : rhB x0 l1 = z
  have HV := Lib.hid hv
  clear hv
  have hx0 := (Below.refl (W).heap.size (W)).alloc (Nat.le_refl _) (.cells #[.slice A0 n0 c0] 57)
  have HB_0 := Lib.hid hx0
  clear hx0
  have r0_0 := (hr0.below HB_0.out).more HB_0.out.size
  clear hr0
  have r1_0 := (hr1.below HB_0.out).more HB_0.out.size
  clear hr1
  have K0_0 := Blk.new W 57 #[.slice A0 n0 c0]
  by_cases hq1 : 1048576 < n1
  case pos =>
    go_enter Try.func10, Try.ntmps10
    go_wp2_with fail
    go_ret
    exact ⟨rfl, HB_0.out⟩
  have hn1 : n1 ≤ 1048576 := by omega
  clear hq1
  go_enter Try.func10, Try.ntmps10
  go_wp2_with fail
  refine (szRuleSet_any A0 n0 c0 x0 _ (by omega) (by omega) _ r0_0 hs0 hm0).mono ?_
  rintro e w1 ⟨⟨r, rfl, hrr⟩, hb1⟩
  have r0_1 := (r0_0.below hb1).more hb1.size
  have r1_1 := (r1_0.below hb1).more hb1.size
  have K0_1 := K0_0.below hb1 K0_0.lt
  have HB_1 := Lib.hid (HB_0.out.trans (hb1.mono HB_0.out.size))
  clear r0_0 r1_0 K0_0 HB_0 hb1
  by_cases hrq : r < 0
  case pos =>
    go_wp2_with fail
    go_ret
    exact ⟨rfl, HB_1.out⟩
  obtain ⟨hn0, ht0⟩ := sz_bounds HL0.out (hrr (by omega)) (by omega)
  clear hrr hs0 hm0
  have HRQ := Lib.hid hrq
  clear hrq
  have hrq : decide (r < 0) = false := decide_eq_false HRQ.out
  have k00 := K0_1.cell 0
  simp only [List.getElem?_toArray, List.getElem?_cons_zero, List.getElem?_cons_succ] at k00
  go_wp2_with fail
  refine (toRuleSet_rls A0 n0 c0 x0 _ r0_1 hn0 ht0).mono ?_
  rintro e w2 ⟨g2, rfl, S0_2, hg2, hb2⟩
  have r0_2 := (r0_1.below hb2).more hb2.size
  have r1_2 := (r1_1.below hb2).more hb2.size
  have K0_2 := K0_1.below hb2 K0_1.lt
  have HB_2 := Lib.hid (HB_1.out.trans (hb2.mono HB_1.out.size))
  clear r0_1 r1_1 K0_1 HB_1 hb2
  clear k00
  go_wp2_with fail
  refine (toIntS_any A1 n1 c1 l1 _ r1_2 hn1).mono ?_
  rintro e w3 ⟨rfl, S1_3, hs3, hb3⟩
  have r0_3 := (r0_2.below hb3).more hb3.size
  have r1_3 := (r1_2.below hb3).more hb3.size
  have K0_3 := K0_2.below hb3 K0_2.lt
  have S0_3 := (S0_2.below hb3).more hb3.size
  have HB_3 := Lib.hid (HB_2.out.trans (hb3.mono HB_2.out.size))
  clear r0_2 r1_2 K0_2 S0_2 HB_2 hb3
  go_wp2_with fail
  refine (sRulesHold_any _ _ _ _ _ _ x0 l1 _ S0_3 (rd_new S1_3 HL1.out S1_3.lt) hn0 ht0 hn1).mono ?_
  rw [HV.out]
  rintro e w4 ⟨rfl, hb4⟩
  have r0_4 := (r0_3.below hb4).more hb4.size
  have r1_4 := (r1_3.below hb4).more hb4.size
  have K0_4 := K0_3.below hb4 K0_3.lt
  have S0_4 := (S0_3.below hb4).more hb4.size
  have S1_4 := S1_3.below hb4 S1_3.lt
  have HB_4 := Lib.hid (HB_3.out.trans (hb4.mono HB_3.out.size))
  clear r0_3 r1_3 K0_3 S0_3 S1_3 HB_3 hb4
  clear S0_4 S1_4
  have k00 := K0_4.cell 0
  simp only [List.getElem?_toArray, List.getElem?_cons_zero, List.getElem?_cons_succ] at k00
  go_wp2_with fail
  refine (toRuleSet_rls A0 n0 c0 x0 _ r0_4 hn0 ht0).mono ?_
  rintro e w5 ⟨g5, rfl, X0_5, hg5, hb5⟩
  have r0_5 := (r0_4.below hb5).more hb5.size
  have r1_5 := (r1_4.below hb5).more hb5.size
  have K0_5 := K0_4.below hb5 K0_4.lt
  have HB_5 := Lib.hid (HB_4.out.trans (hb5.mono HB_4.out.size))
  clear r0_4 r1_4 K0_4 HB_4 hb5
  clear k00
  go_wp2_with fail
  have M0_6 := Blk.new w5 62 #[.slice (some ⟨g5, 0, none⟩) n0 n0]
  have hb6 := (Below.refl w5.heap.size w5).alloc (Nat.le_refl _) (.cells #[.slice (some ⟨g5, 0, none⟩) n0 n0] 62)
  have r0_6 := (r0_5.below hb6).more hb6.size
  have r1_6 := (r1_5.below hb6).more hb6.size
  have K0_6 := K0_5.below hb6 K0_5.lt
  have X0_6 := (X0_5.below hb6).more hb6.size
  have HB_6 := Lib.hid (HB_5.out.trans (hb6.mono HB_5.out.size))
  clear r0_5 r1_5 K0_5 X0_5 HB_5 hb6
  generalize w5.alloc (.cells #[.slice (some ⟨g5, 0, none⟩) n0 n0] 62) = w6 at *
  go_wp2_with fail
  refine (toIntS_any A1 n1 c1 l1 _ r1_6 hn1).mono ?_
  rintro e w7 ⟨rfl, X1_7, hs7, hb7⟩
  have r0_7 := (r0_6.below hb7).more hb7.size
  have r1_7 := (r1_6.below hb7).more hb7.size
  have K0_7 := K0_6.below hb7 K0_6.lt
  have X0_7 := (X0_6.below hb7).more hb7.size
  have M0_7 := M0_6.below hb7 M0_6.lt
  have HB_7 := Lib.hid (HB_6.out.trans (hb7.mono HB_6.out.size))
  clear r0_6 r1_6 K0_6 X0_6 M0_6 HB_6 hb7
  have m00 := M0_7.cell 0
  simp only [List.getElem?_toArray, List.getElem?_cons_zero, List.getElem?_cons_succ] at m00
  go_wp2_with fail
  refine (RulesHold_any _ _ _ _ _ _ x0 l1 _ X0_7 (rd_new X1_7 HL1.out X1_7.lt) hn0 ht0 hn1).mono ?_
  rw [HV.out]
  rintro e w8 ⟨rfl, hb8⟩
  have r0_8 := (r0_7.below hb8).more hb8.size
  have r1_8 := (r1_7.below hb8).more hb8.size
  have K0_8 := K0_7.below hb8 K0_7.lt
  have X0_8 := (X0_7.below hb8).more hb8.size
  have M0_8 := M0_7.below hb8 M0_7.lt
  have X1_8 := X1_7.below hb8 X1_7.lt
  have HB_8 := Lib.hid (HB_7.out.trans (hb8.mono HB_7.out.size))
  clear r0_7 r1_7 K0_7 X0_7 M0_7 X1_7 HB_7 hb8
  clear m00
  have m00 := M0_8.cell 0
  simp only [List.getElem?_toArray, List.getElem?_cons_zero, List.getElem?_cons_succ] at m00
  have k00 := K0_8.cell 0
  simp only [List.getElem?_toArray, List.getElem?_cons_zero, List.getElem?_cons_succ] at k00
  go_wp2_with fail
  go_region_held3 (fun w' => w'.cell? ⟨w5.heap.size, 0, none⟩ = some (.slice (some ⟨g5, 0, none⟩) n0 n0) ∧ w'.cell? ⟨W.heap.size, 0, none⟩ = some (.slice A0 n0 c0))
    (first | exact ⟨m00, k00⟩ | exact ⟨M0_9.cell 0, K0_9.cell 0⟩ | exact ⟨M0_10.cell 0, K0_10.cell 0⟩)
    (first
      | (go_at_call 34; ((with_reducible refine (toRuleSet_rls A0 n0 c0 x0 _ r0_8.drew1 hn0 ht0).mono ?_); rintro e w9 ⟨g9, rfl, E0_9, hg9, hb9⟩; have r0_9 := (r0_8.drew1.below hb9).more hb9.size; have r1_9 := (r1_8.drew1.below hb9).more hb9.size; have K0_9 := K0_8.drew.below hb9 K0_8.lt; have X0_9 := (X0_8.drew1.below hb9).more hb9.size; have M0_9 := M0_8.drew.below hb9 M0_8.lt; have X1_9 := X1_8.drew.below hb9 X1_8.lt; have HB_9 := Lib.hid (HB_8.out.drew.trans (hb9.mono HB_8.out.drew.size))))
      | (go_at_call 36; ((with_reducible refine (eqRuleSet_any _ _ _ _ _ _ _ _ _ X0_9 E0_9 hn0 ht0 ht0).mono ?_); rw [decide_eq_true rfl]; rintro e w10 ⟨rfl, hb10⟩; have r0_10 := (r0_9.below hb10).more hb10.size; have r1_10 := (r1_9.below hb10).more hb10.size; have K0_10 := K0_9.below hb10 K0_9.lt; have X0_10 := (X0_9.below hb10).more hb10.size; have M0_10 := M0_9.below hb10 M0_9.lt; have X1_10 := X1_9.below hb10 X1_9.lt; have E0_10 := (E0_9.below hb10).more hb10.size; have HB_10 := Lib.hid (HB_9.out.trans (hb10.mono HB_9.out.size)))))
  clear r0_8 r1_8 K0_8 X0_8 M0_8 X1_8 HB_8 hb9 r0_9 r1_9 K0_9 X0_9 M0_9 X1_9 E0_9 hb10 HB_9 m00 k00
  clear E0_10
  go_wp2_with fail
  refine (toIntS_any A1 n1 c1 l1 _ r1_10 hn1).mono ?_
  rintro e w11 ⟨rfl, E1_11, hs11, hb11⟩
  have r0_11 := (r0_10.below hb11).more hb11.size
  have r1_11 := (r1_10.below hb11).more hb11.size
  have K0_11 := K0_10.below hb11 K0_10.lt
  have X0_11 := (X0_10.below hb11).more hb11.size
  have M0_11 := M0_10.below hb11 M0_10.lt
  have X1_11 := X1_10.below hb11 X1_10.lt
  have HB_11 := Lib.hid (HB_10.out.trans (hb11.mono HB_10.out.size))
  clear r0_10 r1_10 K0_10 X0_10 M0_10 X1_10 HB_10 hb11
  go_wp2_with fail
  refine (eqIntS_b _ _ _ _ _ _ _ _ _ (rd_new X1_11 HL1.out X1_11.lt) (rd_new E1_11 HL1.out E1_11.lt) hn1 hn1).mono ?_
  rw [decide_eq_true rfl]
  rintro e w12 ⟨rfl, hb12⟩
  have r0_12 := (r0_11.below hb12).more hb12.size
  have r1_12 := (r1_11.below hb12).more hb12.size
  have K0_12 := K0_11.below hb12 K0_11.lt
  have X0_12 := (X0_11.below hb12).more hb12.size
  have M0_12 := M0_11.below hb12 M0_11.lt
  have X1_12 := X1_11.below hb12 X1_11.lt
  have E1_12 := E1_11.below hb12 E1_11.lt
  have HB_12 := Lib.hid (HB_11.out.trans (hb12.mono HB_11.out.size))
  clear r0_11 r1_11 K0_11 X0_11 M0_11 X1_11 E1_11 HB_11 hb12
  clear E1_12
  go_wp2_with fail
  go_ret
  exact ⟨rfl, HB_12.out⟩

open Go.ChangeShapes Go.WideShapes Go.ChangeAt Go.RowKit
open Go.ChangeMaps (open_string shut_string)
set_option linter.unusedVariables false

set_option maxRecDepth 100000 in
theorem lifted (os : Os) (started : os.Started) (H : Type) (enc : TypeId × Value → H) :
    ReturnsInHanded {} Try.checked os 10 .any (Rows.fnExactRulesHoldSpec.pre6 enc Try.prog Try.f10 Rows.fnExactRulesHoldRow.domain false) (Rows.fnExactRulesHoldSpec.post enc Try.prog Try.f10 false true false false) := by
  refine returnsInHanded_of_change (C := Try.checked) own started (by kernel_rfl) Try.func10
    (ChangeSpec.witness6 (enc := enc) (C := Try.checked) false ⟨#[], #[.agg #[.slice none 0 0], .slice none 0 0], []⟩ 8 (by kernel_rfl) (by kernel_rfl) (by kernel_rfl) (by kernel_rfl)) ?_
  intro W base args ds gs before hval0 hW hcnd _
  have hval : ∀ (j : Nat) t v, Try.f10.params[j]? = some t → args[j]? = some v → Value.okWide Try.prog W .any base t v := hval0
  have hW' := hW
  have hltp := fun p hp => hW.lt p hp
  obtain ⟨p, q, hA0, hV, rfl, hfz, hnd⟩ := hW
  have hA : DataW.TrodAll enc Try.prog W 0 (fun _ => true) true Try.f10.params.toList args.toList ds p := hA0
  rw [Try.params10] at hA hval
  obtain ⟨v0, vs0, d0, ds0, p0, q0, hargs, rfl, rfl, h0, r0⟩ := trodAll_cons hA
  obtain ⟨v1, vs1, d1, ds1, p1, q1, rfl, rfl, rfl, h1, r1⟩ := trodAll_cons r0
  obtain ⟨rfl, rfl, rfl⟩ := trodAll_nil r1
  obtain rfl : args = #[v0, v1] := by cases args; simp_all
  obtain ⟨rfl, rfl⟩ := trodVars_none hV
  have k0 := h0
  have lt0 : ∀ x ∈ p0, x.block < W.heap.size := by obtain ⟨m, hm⟩ := k0; exact DataW.trod_lt m _ _ _ hm
  have k1 := h1
  have lt1 : ∀ x ∈ p1, x.block < W.heap.size := by obtain ⟨m, hm⟩ := k1; exact DataW.trod_lt m _ _ _ hm
  obtain ⟨l0, x0, rfl, i0⟩ := arg_struct Try.underlying57 (opens_st1 Try.underlying57 (by kernel_rfl) (by kernel_rfl) (opens_slice (k := 1) Try.underlying55 (by kernel_rfl) (by decide) (opens_st1 Try.underlying24 (by kernel_rfl) (by kernel_rfl) (opens_slice (k := 3) Try.underlying22 (by kernel_rfl) (by decide) (opens_st3 Try.underlying133 (by kernel_rfl) (by kernel_rfl) (opens_int Try.underlying3) (opens_int Try.underlying3) (opens_bool Try.underlying4)))))) (hval 0 57 v0 rfl rfl) h0
  obtain ⟨A1, n1, c1, l1, rfl, i1⟩ := arg_slice Try.underlying25 (opens_slice (k := 1) Try.underlying25 (by kernel_rfl) (by decide) (opens_int Try.underlying3)) (hval 1 25 v1 rfl rfl) h1
  clear hA0 hval0
  refine (walk W l0 x0 i0 A1 n1 c1 l1 i1).mono fun e W' ⟨he, bel⟩ => ?_
  subst he
  exact ⟨_, rfl, _, _, _, [], _, [], hW', trodAll_mk1 (shut_bool Try.underlying4 _), (trodAll_cons_mk (Below.trod laidOut (by kernel_rfl) (of_decide_eq_true (by kernel_rfl)) k0 bel lt0) (trodAll_cons_mk (Below.trod laidOut (by kernel_rfl) (of_decide_eq_true (by kernel_rfl)) k1 bel lt1) trodAll_mk0)), rfl, bel.frame _, fun h => by cases h⟩

theorem over : Rows.fnExactRulesHoldRow.holds Try.pinned (OpenSpec.ofChange Rows.fnExactRulesHoldSpec) :=
  OpenClaim.holds_of_wide 10 Try.f10 rfl rfl rfl rfl rfl rfl rfl ⟨rfl, rfl, rfl, rfl, rfl⟩ rfl rfl rfl rfl rfl (by kernel_rfl) Try.func10 (by kernel_rfl)
    (of_decide_eq_true (by kernel_rfl)) (by unfold Func.isWrapper; first | (rw [if_pos (by decide +kernel)]; kernel_rfl) | (rw [if_neg (by decide +kernel)]; exact ⟨rfl, rfl⟩))
    (fun os started H enc _ => lifted os started H enc)

/-- the given statement -/
theorem proved : Rows.FnExactRulesHoldSaid := over
end lawFnExactRulesHold
end Go.Proofs.Ytjfhlhhobpdneaa
