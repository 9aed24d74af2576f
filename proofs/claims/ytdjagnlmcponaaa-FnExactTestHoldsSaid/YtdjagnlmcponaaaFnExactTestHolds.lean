/- The law FnExactTestHolds returns true for every input and leaves what was in memory as it was. Conditions: none. -/
import Derived.Test.YtdjagnlmcponaaaFrame
import Derived.Test.YtdjagnlmcponaaaTest
namespace Go.Proofs.Ytdjagnlmcponaaa
open Go.RowKit
namespace lawFnExactTestHolds
set_option linter.unusedVariables false
theorem walk (W : World) (l0 : List Value) (x0 : (Int) × (Int) × (Bool)) (i0 : (st3R (intR) (intR) (boolR)) W W.heap.size x0 l0) (A1 : Option Addr) (n1 c1 : Nat) (l1 : List (Int)) (i1 : slR 1 (intR) W W.heap.size l1 [.slice A1 n1 c1]) :
    Calls Try.prog 8 #[.agg l0.toArray, .slice A1 n1 c1] W fun e w' => e = .returned (.bool true) ∧ Below W.heap.size W w' := by
  obtain ⟨v, u, y, rfl, h0, h1, h2⟩ := i0
  obtain ⟨f, t, b⟩ := x0
  have hv := h0.1
  have hu := h1.1
  have hy : [y] = [Value.bool b] := h2
  simp only [List.cons.injEq, and_true] at hv hu hy
  subst hv hu hy
  clear h0 h1 h2
  obtain ⟨hl, _, hr, _⟩ := slR_ints i1
  clear i1
  by_cases hn : n1 ≤ 1048576
  · have HL := Lib.hid hl
    clear hl
    generalize hv : tstB f t b l1 = z
    have HV := Lib.hid hv
    clear hv
    have hb0 : Below W.heap.size W (W.alloc (.cells #[.int .i64 f, .int .i64 t, .bool b] 34)) := (Below.refl _ _).alloc (Nat.le_refl _) _
    have hr0 := (hr.below hb0).more hb0.size
    have K0 : Blk (W.alloc (.cells #[.int .i64 f, .int .i64 t, .bool b] 34)) W.heap.size 34 #[.int .i64 f, .int .i64 t, .bool b] := Blk.new _ _ _
    have HB0 := Lib.hid hb0
    have hsz0 : W.heap.size < (W.alloc (.cells #[.int .i64 f, .int .i64 t, .bool b] 34)).heap.size := by simp
    have HZ0 := Lib.hid hsz0
    clear hb0 hsz0
    go_enter Try.func8, Try.ntmps8
    go_wp2_with fail
    refine (toTest_any _ _ _ _).mono ?_
    rintro e w1 ⟨rfl, hb1⟩
    have hr1 := (hr0.below hb1).more hb1.size
    have K1 := K0.below hb1 HZ0.out
    have hbb1 := HB0.out.trans (hb1.mono HB0.out.size)
    have hz1 : W.heap.size < w1.heap.size := Nat.lt_of_lt_of_le HZ0.out hb1.size
    clear hb1
    go_wp2_with fail
    refine (toIntS_any _ _ _ _ _ hr1 hn).mono ?_
    rintro e w2 ⟨rfl, hB2, hs2, hb2⟩
    have hr2 := (hr1.below hb2).more hb2.size
    have K2 := K1.below hb2 hz1
    go_wp2_with fail
    refine (sTestHolds_any _ _ _ _ _ _ _ _ (rd_new hB2 HL.out hs2) hn).mono ?_
    rw [HV.out]
    rintro e w3 ⟨rfl, hb3⟩
    have hr3 := (hr2.below hb3).more hb3.size
    have hbb3 := hbb1.trans ((hb2.mono (by omega)).trans (hb3.mono (by omega)))
    have K3 := K2.below hb3 (by omega)
    have hz3 : W.heap.size < w3.heap.size := by have := hb3.size; omega
    clear hb2 hb3 hB2 hs2 hr1 hr2
    go_wp2_with fail
    refine (toIntS_any _ _ _ _ _ hr3 hn).mono ?_
    rintro e w4 ⟨rfl, hB4, hs4, hb4⟩
    have hr4 := (hr3.below hb4).more hb4.size
    have K4 := K3.below hb4 hz3
    have hbb4 := hbb3.trans (hb4.mono (by omega))
    have k0 : w4.cell? ⟨W.heap.size, 0, none⟩ = some (.int .i64 f) := K4.cell 0
    have k1 : w4.cell? ⟨W.heap.size, 1, none⟩ = some (.int .i64 t) := K4.cell 1
    have k2 : w4.cell? ⟨W.heap.size, 2, none⟩ = some (.bool b) := K4.cell 2
    go_wp2_with fail
    refine (toTest_any _ _ _ _).mono ?_
    rintro e w5 ⟨rfl, hb5⟩
    have hr5 := (hr4.below hb5).more hb5.size
    have hB5 := hB4.below hb5 hs4
    clear k0 k1 k2
    go_wp2_with fail
    refine (TestHolds_any _ _ _ _ _ _ _ _ (rd_new hB5 HL.out (by have := hb5.size; omega)) hn).mono ?_
    rw [HV.out]
    rintro e w6 ⟨rfl, hb6⟩
    have hr6 := (hr5.below hb6).more hb6.size
    have hB6 := hB5.below hb6 (by have := hb5.size; omega)
    have hbb6 := hbb4.trans ((hb5.mono (by omega)).trans (hb6.mono (by have := hb5.size; omega)))
    have hs6 : w3.heap.size < w6.heap.size := by have := hb5.size; have := hb6.size; omega
    clear hb5 hb6 hB4 hB5 hr4 hr5 K0 K1 K2 K3 K4
    go_wp2_with fail
    refine (toIntS_any _ _ _ _ _ hr6 hn).mono ?_
    rintro e w7 ⟨rfl, hB7, hs7, hb7⟩
    go_wp2_with fail
    refine (eqIntS_any _ _ _ _ _ _ _ _ _ (rd_new (hB6.below hb7 hs6) HL.out (by omega)) (rd_new hB7 HL.out hs7) hn hn).mono ?_
    rintro e w8 ⟨rfl, k8, rfl⟩
    rw [decide_eq_true rfl]
    go_wp2_with fail
    go_ret
    exact ⟨rfl, below_drewN (hbb6.trans (hb7.mono (by omega))) _⟩
  · go_enter Try.func8, Try.ntmps8
    go_wp2_with fail
    go_ret
    exact ⟨rfl, (Below.refl _ _).alloc (Nat.le_refl _) _⟩

open Go.ChangeShapes Go.WideShapes Go.ChangeAt Go.RowKit
open Go.ChangeMaps (open_string shut_string)
set_option linter.unusedVariables false

set_option maxRecDepth 100000 in
theorem lifted (os : Os) (started : os.Started) (H : Type) (enc : TypeId × Value → H) :
    ReturnsInHanded {} Try.checked os 8 .any (Rows.fnExactTestHoldsSpec.pre6 enc Try.prog Try.f8 Rows.fnExactTestHoldsRow.domain false) (Rows.fnExactTestHoldsSpec.post enc Try.prog Try.f8 false true false false) := by
  refine returnsInHanded_of_change (C := Try.checked) own started (by kernel_rfl) Try.func8
    (ChangeSpec.witness6 (enc := enc) (C := Try.checked) false ⟨#[], #[.agg #[.int .i64 0, .int .i64 0, .bool false], .slice none 0 0], []⟩ 8 (by kernel_rfl) (by kernel_rfl) (by kernel_rfl) (by kernel_rfl)) ?_
  intro W base args ds gs before hval0 hW hcnd _
  have hval : ∀ (j : Nat) t v, Try.f8.params[j]? = some t → args[j]? = some v → Value.okWide Try.prog W .any base t v := hval0
  have hW' := hW
  have hltp := fun p hp => hW.lt p hp
  obtain ⟨p, q, hA0, hV, rfl, hfz, hnd⟩ := hW
  have hA : DataW.TrodAll enc Try.prog W 0 (fun _ => true) true Try.f8.params.toList args.toList ds p := hA0
  rw [Try.params8] at hA hval
  obtain ⟨v0, vs0, d0, ds0, p0, q0, hargs, rfl, rfl, h0, r0⟩ := trodAll_cons hA
  obtain ⟨v1, vs1, d1, ds1, p1, q1, rfl, rfl, rfl, h1, r1⟩ := trodAll_cons r0
  obtain ⟨rfl, rfl, rfl⟩ := trodAll_nil r1
  obtain rfl : args = #[v0, v1] := by cases args; simp_all
  obtain ⟨rfl, rfl⟩ := trodVars_none hV
  have k0 := h0
  have lt0 : ∀ x ∈ p0, x.block < W.heap.size := by obtain ⟨m, hm⟩ := k0; exact DataW.trod_lt m _ _ _ hm
  have k1 := h1
  have lt1 : ∀ x ∈ p1, x.block < W.heap.size := by obtain ⟨m, hm⟩ := k1; exact DataW.trod_lt m _ _ _ hm
  obtain ⟨l0, x0, rfl, i0⟩ := arg_struct Try.underlying34 (opens_st3 Try.underlying34 (by kernel_rfl) (by kernel_rfl) (opens_int Try.underlying3) (opens_int Try.underlying3) (opens_bool Try.underlying4)) (hval 0 34 v0 rfl rfl) h0
  obtain ⟨A1, n1, c1, l1, rfl, i1⟩ := arg_slice Try.underlying29 (opens_slice (k := 1) Try.underlying29 (by kernel_rfl) (by decide) (opens_int Try.underlying3)) (hval 1 29 v1 rfl rfl) h1
  clear hA0 hval0
  refine (walk W l0 x0 i0 A1 n1 c1 l1 i1).mono fun e W' ⟨he, bel⟩ => ?_
  subst he
  exact ⟨_, rfl, _, _, _, [], _, [], hW', trodAll_mk1 (shut_bool Try.underlying4 _), (trodAll_cons_mk (Below.trod laidOut (by kernel_rfl) (of_decide_eq_true (by kernel_rfl)) k0 bel lt0) (trodAll_cons_mk (Below.trod laidOut (by kernel_rfl) (of_decide_eq_true (by kernel_rfl)) k1 bel lt1) trodAll_mk0)), rfl, bel.frame _, fun h => by cases h⟩

theorem over : Rows.fnExactTestHoldsRow.holds Try.pinned (OpenSpec.ofChange Rows.fnExactTestHoldsSpec) :=
  OpenClaim.holds_of_wide 8 Try.f8 rfl rfl rfl rfl rfl rfl rfl ⟨rfl, rfl, rfl, rfl, rfl⟩ rfl rfl rfl rfl rfl (by kernel_rfl) Try.func8 (by kernel_rfl)
    (of_decide_eq_true (by kernel_rfl)) (by unfold Func.isWrapper; first | (rw [if_pos (by decide +kernel)]; kernel_rfl) | (rw [if_neg (by decide +kernel)]; exact ⟨rfl, rfl⟩))
    (fun os started H enc _ => lifted os started H enc)

/-- the given statement -/
theorem proved : Rows.FnExactTestHoldsSaid := over
end lawFnExactTestHolds
end Go.Proofs.Ytdjagnlmcponaaa
