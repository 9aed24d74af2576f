/- The law FnExactDominatesFeatures returns true for every input and leaves what was in memory as it was. Conditions: none. -/
import Derived.Test.YtdjagnlmcponaaaFrame
import Derived.Test.YtdjagnlmcponaaaFeat
namespace Go.Proofs.Ytdjagnlmcponaaa
open Go.RowKit
namespace lawFnExactDominatesFeatures
set_option linter.unusedVariables false
theorem walk (W : World) (A0 : Option Addr) (n0 c0 : Nat) (l0 : List (Int)) (i0 : slR 1 (intR) W W.heap.size l0 [.slice A0 n0 c0]) (A1 : Option Addr) (n1 c1 : Nat) (l1 : List (Int)) (i1 : slR 1 (intR) W W.heap.size l1 [.slice A1 n1 c1]) :
    Calls Try.prog 9 #[.slice A0 n0 c0, .slice A1 n1 c1] W fun e w' => e = .returned (.bool true) ∧ Below W.heap.size W w' := by
  obtain ⟨hl, _, hr, _⟩ := slR_ints i0
  obtain ⟨hl', _, hr', _⟩ := slR_ints i1
  clear i0 i1
  by_cases h0 : n0 ≤ 1048576
  · by_cases h1 : n1 ≤ 1048576
    · have HL := Lib.hid hl
      have HL' := Lib.hid hl'
      clear hl hl'
      generalize hv : domB l0 l1 = v
      have HV := Lib.hid hv
      clear hv
      go_enter Try.func9, Try.ntmps9
      go_wp2_with fail
      refine (toIntS_any _ _ _ _ _ hr h0).mono ?_
      rintro e w1 ⟨rfl, hB1, hs1, hb1⟩
      have hra := (hr.below hb1).more hb1.size
      have hra' := (hr'.below hb1).more hb1.size
      go_wp2_with fail
      refine (toIntS_any _ _ _ _ _ hra' h1).mono ?_
      rintro e w2 ⟨rfl, hB2, hs2, hb2⟩
      have hrb := (hra.below hb2).more hb2.size
      have hrb' := (hra'.below hb2).more hb2.size
      go_wp2_with fail
      refine (sDominatesFeatures_any _ _ _ _ _ _ _ _ _ (rd_new (hB1.below hb2 hs1) HL.out (by omega)) (rd_new hB2 HL'.out hs2) h0 h1).mono ?_
      rw [HV.out]
      rintro e w3 ⟨rfl, k, rfl⟩
      have hrc : Rd (w2.drewN k) (w2.drewN k).heap.size 1 A0 n0 (ci l0) := hrb
      have hrc' : Rd (w2.drewN k) (w2.drewN k).heap.size 1 A1 n1 (ci l1) := hrb'
      have hbb : Below W.heap.size W (w2.drewN k) := below_drewN (hb1.trans (hb2.mono hb1.size)) k
      have hss : W.heap.size ≤ (w2.drewN k).heap.size := hbb.size
      generalize w2.drewN k = w3 at *
      clear hB1 hB2 hs1 hs2 hb1 hb2 hra hra' hrb hrb'
      go_wp2_with fail
      refine (toIntS_any _ _ _ _ _ hrc h0).mono ?_
      rintro e w4 ⟨rfl, hB4, hs4, hb4⟩
      have hrd := (hrc.below hb4).more hb4.size
      have hrd' := (hrc'.below hb4).more hb4.size
      go_wp2_with fail
      refine (toIntS_any _ _ _ _ _ hrd' h1).mono ?_
      rintro e w5 ⟨rfl, hB5, hs5, hb5⟩
      have hre := (hrd.below hb5).more hb5.size
      have hre' := (hrd'.below hb5).more hb5.size
      have hB45 := hB4.below hb5 hs4
      go_wp2_with fail
      refine (DominatesFeatures_any _ _ _ _ _ _ _ _ _ (rd_new hB45 HL.out (by omega)) (rd_new hB5 HL'.out hs5) h0 h1).mono ?_
      rw [HV.out]
      rintro e w6 ⟨rfl, k6, rfl⟩
      have hrf : Rd (w5.drewN k6) (w5.drewN k6).heap.size 1 A0 n0 (ci l0) := hre
      have hrf' : Rd (w5.drewN k6) (w5.drewN k6).heap.size 1 A1 n1 (ci l1) := hre'
      have hB4f := hB45.drewN k6
      have hB5f := hB5.drewN k6
      have hbf : Below W.heap.size W (w5.drewN k6) := below_drewN (hbb.trans ((hb4.mono hss).trans (hb5.mono (by omega)))) k6
      have hs4f : w3.heap.size < (w5.drewN k6).heap.size := Nat.lt_trans hs4 hs5
      have hs5f : w4.heap.size < (w5.drewN k6).heap.size := hs5
      generalize w5.drewN k6 = w6 at *
      clear hB4 hB5 hb5 hrd hrd' hre hre' hB45
      go_wp2_with fail
      refine (toIntS_any _ _ _ _ _ hrf h0).mono ?_
      rintro e w7 ⟨rfl, hB7, hs7, hb7⟩
      go_wp2_with fail
      refine (eqIntS_any _ _ _ _ _ _ _ _ _ (rd_new (hB4f.below hb7 hs4f) HL.out (by omega)) (rd_new hB7 HL.out hs7) h0 h0).mono ?_
      rintro e w8 ⟨rfl, k8, rfl⟩
      rw [decide_eq_true rfl]
      have hb8 : Below w6.heap.size w6 (w7.drewN k8) := below_drewN hb7 k8
      have hs8 : w6.heap.size < (w7.drewN k8).heap.size := hs7
      generalize w7.drewN k8 = w8 at *
      go_wp2_with fail
      refine (toIntS_any _ _ _ _ _ ((hrf'.below hb8).more hb8.size) h1).mono ?_
      rintro e w9 ⟨rfl, hB9, hs9, hb9⟩
      go_wp2_with fail
      refine (eqIntS_any _ _ _ _ _ _ _ _ _ (rd_new ((hB5f.below hb8 hs5f).below hb9 (by omega)) HL'.out (by omega)) (rd_new hB9 HL'.out hs9) h1 h1).mono ?_
      rintro e w10 ⟨rfl, k10, rfl⟩
      rw [decide_eq_true rfl]
      go_wp2_with fail
      go_ret
      exact ⟨rfl, below_drewN (hbf.trans ((hb8.mono hbf.size).trans (hb9.mono (by have := hbf.size; omega)))) _⟩
    · go_enter Try.func9, Try.ntmps9
      go_wp2_with fail
      go_ret
      exact ⟨rfl, Below.refl _ _⟩
  · go_enter Try.func9, Try.ntmps9
    go_wp2_with fail
    go_ret
    exact ⟨rfl, Below.refl _ _⟩

open Go.ChangeShapes Go.WideShapes Go.ChangeAt Go.RowKit
open Go.ChangeMaps (open_string shut_string)
set_option linter.unusedVariables false

set_option maxRecDepth 100000 in
theorem lifted (os : Os) (started : os.Started) (H : Type) (enc : TypeId × Value → H) :
    ReturnsInHanded {} Try.checked os 9 .any (Rows.fnExactDominatesFeaturesSpec.pre6 enc Try.prog Try.f9 Rows.fnExactDominatesFeaturesRow.domain false) (Rows.fnExactDominatesFeaturesSpec.post enc Try.prog Try.f9 false true false false) := by
  refine returnsInHanded_of_change (C := Try.checked) own started (by kernel_rfl) Try.func9
    (ChangeSpec.witness6 (enc := enc) (C := Try.checked) false ⟨#[], #[.slice none 0 0, .slice none 0 0], []⟩ 8 (by kernel_rfl) (by kernel_rfl) (by kernel_rfl) (by kernel_rfl)) ?_
  intro W base args ds gs before hval0 hW hcnd _
  have hval : ∀ (j : Nat) t v, Try.f9.params[j]? = some t → args[j]? = some v → Value.okWide Try.prog W .any base t v := hval0
  have hW' := hW
  have hltp := fun p hp => hW.lt p hp
  obtain ⟨p, q, hA0, hV, rfl, hfz, hnd⟩ := hW
  have hA : DataW.TrodAll enc Try.prog W 0 (fun _ => true) true Try.f9.params.toList args.toList ds p := hA0
  rw [Try.params9] at hA hval
  obtain ⟨v0, vs0, d0, ds0, p0, q0, hargs, rfl, rfl, h0, r0⟩ := trodAll_cons hA
  obtain ⟨v1, vs1, d1, ds1, p1, q1, rfl, rfl, rfl, h1, r1⟩ := trodAll_cons r0
  obtain ⟨rfl, rfl, rfl⟩ := trodAll_nil r1
  obtain rfl : args = #[v0, v1] := by cases args; simp_all
  obtain ⟨rfl, rfl⟩ := trodVars_none hV
  have k0 := h0
  have lt0 : ∀ x ∈ p0, x.block < W.heap.size := by obtain ⟨m, hm⟩ := k0; exact DataW.trod_lt m _ _ _ hm
  have k1 := h1
  have lt1 : ∀ x ∈ p1, x.block < W.heap.size := by obtain ⟨m, hm⟩ := k1; exact DataW.trod_lt m _ _ _ hm
  obtain ⟨A0, n0, c0, l0, rfl, i0⟩ := arg_slice Try.underlying29 (opens_slice (k := 1) Try.underlying29 (by kernel_rfl) (by decide) (opens_int Try.underlying3)) (hval 0 29 v0 rfl rfl) h0
  obtain ⟨A1, n1, c1, l1, rfl, i1⟩ := arg_slice Try.underlying29 (opens_slice (k := 1) Try.underlying29 (by kernel_rfl) (by decide) (opens_int Try.underlying3)) (hval 1 29 v1 rfl rfl) h1
  clear hA0 hval0
  refine (walk W A0 n0 c0 l0 i0 A1 n1 c1 l1 i1).mono fun e W' ⟨he, bel⟩ => ?_
  subst he
  exact ⟨_, rfl, _, _, _, [], _, [], hW', trodAll_mk1 (shut_bool Try.underlying4 _), (trodAll_cons_mk (Below.trod laidOut (by kernel_rfl) (of_decide_eq_true (by kernel_rfl)) k0 bel lt0) (trodAll_cons_mk (Below.trod laidOut (by kernel_rfl) (of_decide_eq_true (by kernel_rfl)) k1 bel lt1) trodAll_mk0)), rfl, bel.frame _, fun h => by cases h⟩

theorem over : Rows.fnExactDominatesFeaturesRow.holds Try.pinned (OpenSpec.ofChange Rows.fnExactDominatesFeaturesSpec) :=
  OpenClaim.holds_of_wide 9 Try.f9 rfl rfl rfl rfl rfl rfl rfl ⟨rfl, rfl, rfl, rfl, rfl⟩ rfl rfl rfl rfl rfl (by kernel_rfl) Try.func9 (by kernel_rfl)
    (of_decide_eq_true (by kernel_rfl)) (by unfold Func.isWrapper; first | (rw [if_pos (by decide +kernel)]; kernel_rfl) | (rw [if_neg (by decide +kernel)]; exact ⟨rfl, rfl⟩))
    (fun os started H enc _ => lifted os started H enc)

/-- the given statement -/
theorem proved : Rows.FnExactDominatesFeaturesSaid := over
end lawFnExactDominatesFeatures
end Go.Proofs.Ytdjagnlmcponaaa
