/- The law FnExactTokenFrequency returns true for every input and leaves what was in memory as it was. Conditions: none. -/
import Derived.Test.YtdjagnlmcponaaaFrame
import Derived.Test.YtdjagnlmcponaaaTok
namespace Go.Proofs.Ytdjagnlmcponaaa
open Go.RowKit
namespace lawFnExactTokenFrequency
set_option linter.unusedVariables false
theorem walk (W : World) (A0 : Option Addr) (n0 c0 : Nat) (l0 : List ((ByteArray) × (Int))) (i0 : slR 2 (st2R (strR) (intR)) W W.heap.size l0 [.slice A0 n0 c0]) (a1 : ByteArray) (i1 : a1.size ≤ maxLen) :
    Calls Try.prog 11 #[.slice A0 n0 c0, .string a1] W fun e w' => e = .returned (.bool true) ∧ Below W.heap.size W w' := by
  obtain ⟨hr, hs, hm⟩ := slR_tc i0
  have HL := Lib.hid hr.tc_len
  clear i0
  unfold maxLen at i1
  have HZ := Lib.hid (szTokenCountS_any A0 n0 c0 l0 1048576 (by omega) (by omega) W hr hs hm)
  clear hs hm
  generalize hv : freq l0 a1 = v
  have HV := Lib.hid hv
  clear hv
  by_cases h1 : a1.size ≤ 1048576
  · go_enter Try.func11, Try.ntmps11
    go_wp2_with fail
    refine HZ.out.mono ?_
    rintro e w0 ⟨⟨r, rfl, hsz⟩, hb0⟩
    have HSZ := Lib.hid hsz
    clear hsz
    by_cases hneg : r < 0
    · go_wp2_with fail
      go_ret
      exact ⟨rfl, hb0⟩
    · have h0 : n0 ≤ 1048576 := by have := HSZ.out (by omega); omega
      have hr0 := (hr.below hb0).more hb0.size
      have hss0 := hb0.size
      go_wp2_with fail
      refine (toTokenCountS_any _ _ _ _ _ hr0 h0).mono ?_
      rintro e w1 ⟨rfl, hB1, hs1, hb1⟩
      have hra := (hr0.below hb1).more hb1.size
      go_wp2_with fail
      refine (sTokenFrequency_any _ _ _ _ _ _ (rd_whole hB1 (by rw [ct_len, HL.out]) hs1) h0).mono ?_
      rw [HV.out]
      rintro e w2 ⟨rfl, rfl⟩
      go_wp2_with fail
      refine (toTokenCountS_any _ _ _ _ _ hra h0).mono ?_
      rintro e w3 ⟨rfl, hB3, hs3, hb3⟩
      have hrc := (hra.below hb3).more hb3.size
      go_wp2_with fail
      refine (TokenFrequency_any _ _ _ _ _ _ (rd_whole hB3 (by rw [ct_len, HL.out]) hs3) h0).mono ?_
      rw [HV.out]
      rintro e w4 ⟨rfl, hb4⟩
      have hrd := (hrc.below hb4).more hb4.size
      have hs4 := hb4.size
      go_wp2_with fail
      refine (toTokenCountS_any _ _ _ _ _ hrd h0).mono ?_
      rintro e w5 ⟨rfl, hB5, hs5, hb5⟩
      go_wp2_with fail
      refine (eqTokenCountS_any _ _ _ _ _ _ _ _ _ (rd_whole ((hB3.below hb4 hs3).below hb5 (by omega)) (by rw [ct_len, HL.out]) (by omega)) (rd_whole hB5 (by rw [ct_len, HL.out]) hs5) h0 h0).mono ?_
      rintro e w6 ⟨rfl, hb6⟩
      rw [decide_eq_true rfl]
      go_wp2_with fail
      go_ret
      exact ⟨rfl, hb0.trans ((hb1.mono (by omega)).trans ((hb3.mono (by omega)).trans ((hb4.mono (by omega)).trans ((hb5.mono (by omega)).trans (hb6.mono (by omega))))))⟩
  · go_enter Try.func11, Try.ntmps11
    go_wp2_with fail
    go_ret
    exact ⟨rfl, Below.refl _ _⟩

open Go.ChangeShapes Go.WideShapes Go.ChangeAt Go.RowKit
open Go.ChangeMaps (open_string shut_string)
set_option linter.unusedVariables false

set_option maxRecDepth 100000 in
theorem lifted (os : Os) (started : os.Started) (H : Type) (enc : TypeId × Value → H) :
    ReturnsInHanded {} Try.checked os 11 .any (Rows.fnExactTokenFrequencySpec.pre6 enc Try.prog Try.f11 Rows.fnExactTokenFrequencyRow.domain false) (Rows.fnExactTokenFrequencySpec.post enc Try.prog Try.f11 false true false false) := by
  refine returnsInHanded_of_change (C := Try.checked) own started (by kernel_rfl) Try.func11
    (ChangeSpec.witness6 (enc := enc) (C := Try.checked) false ⟨#[], #[.slice none 0 0, .string ByteArray.empty], []⟩ 8 (by kernel_rfl) (by kernel_rfl) (by kernel_rfl) (by kernel_rfl)) ?_
  intro W base args ds gs before hval0 hW hcnd _
  have hval : ∀ (j : Nat) t v, Try.f11.params[j]? = some t → args[j]? = some v → Value.okWide Try.prog W .any base t v := hval0
  have hW' := hW
  have hltp := fun p hp => hW.lt p hp
  obtain ⟨p, q, hA0, hV, rfl, hfz, hnd⟩ := hW
  have hA : DataW.TrodAll enc Try.prog W 0 (fun _ => true) true Try.f11.params.toList args.toList ds p := hA0
  rw [Try.params11] at hA hval
  obtain ⟨v0, vs0, d0, ds0, p0, q0, hargs, rfl, rfl, h0, r0⟩ := trodAll_cons hA
  obtain ⟨v1, vs1, d1, ds1, p1, q1, rfl, rfl, rfl, h1, r1⟩ := trodAll_cons r0
  obtain ⟨rfl, rfl, rfl⟩ := trodAll_nil r1
  obtain rfl : args = #[v0, v1] := by cases args; simp_all
  obtain ⟨rfl, rfl⟩ := trodVars_none hV
  have k0 := h0
  have lt0 : ∀ x ∈ p0, x.block < W.heap.size := by obtain ⟨m, hm⟩ := k0; exact DataW.trod_lt m _ _ _ hm
  have k1 := h1
  have lt1 : ∀ x ∈ p1, x.block < W.heap.size := by obtain ⟨m, hm⟩ := k1; exact DataW.trod_lt m _ _ _ hm
  obtain ⟨A0, n0, c0, l0, rfl, i0⟩ := arg_slice Try.underlying39 (opens_slice (k := 2) Try.underlying39 (by kernel_rfl) (by decide) (opens_st2 Try.underlying72 (by kernel_rfl) (by kernel_rfl) (opens_str Try.underlying9) (opens_int Try.underlying3))) (hval 0 39 v0 rfl rfl) h0
  obtain ⟨a1, rfl, rfl, rfl, i1⟩ := open_string Try.underlying9 (hval 1 9 v1 rfl rfl) h1
  clear hA0 hval0
  refine (walk W A0 n0 c0 l0 i0 a1 i1).mono fun e W' ⟨he, bel⟩ => ?_
  subst he
  exact ⟨_, rfl, _, _, _, [], _, [], hW', trodAll_mk1 (shut_bool Try.underlying4 _), (trodAll_cons_mk (Below.trod laidOut (by kernel_rfl) (of_decide_eq_true (by kernel_rfl)) k0 bel lt0) (trodAll_cons_mk (Below.trod laidOut (by kernel_rfl) (of_decide_eq_true (by kernel_rfl)) k1 bel lt1) trodAll_mk0)), rfl, bel.frame _, fun h => by cases h⟩

theorem over : Rows.fnExactTokenFrequencyRow.holds Try.pinned (OpenSpec.ofChange Rows.fnExactTokenFrequencySpec) :=
  OpenClaim.holds_of_wide 11 Try.f11 rfl rfl rfl rfl rfl rfl rfl ⟨rfl, rfl, rfl, rfl, rfl⟩ rfl rfl rfl rfl rfl (by kernel_rfl) Try.func11 (by kernel_rfl)
    (of_decide_eq_true (by kernel_rfl)) (by unfold Func.isWrapper; first | (rw [if_pos (by decide +kernel)]; kernel_rfl) | (rw [if_neg (by decide +kernel)]; exact ⟨rfl, rfl⟩))
    (fun os started H enc _ => lifted os started H enc)

/-- the given statement -/
theorem proved : Rows.FnExactTokenFrequencySaid := over
end lawFnExactTokenFrequency
end Go.Proofs.Ytdjagnlmcponaaa
