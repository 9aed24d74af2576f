/- The law FnExactJoinSets returns true for every input and leaves what was in memory as it was. Conditions: none. -/
import Derived.Test.YtfcocbokgfmjfaaFrame
import Derived.Test.YtfcocbokgfmjfaaBr
import Derived.Test.YtfcocbokgfmjfaaJh
import Derived.Test.YtfcocbokgfmjfaaJjoin
namespace Go.Proofs.Ytfcocbokgfmjfaa
open Go.RowKit
namespace lawFnExactJoinSets
set_option linter.unusedVariables false
theorem walk (W : World) (l0 : List Value) (x0 : (Int) × (List ((ByteArray) × (Int))) × (List ((Int) × (List (ByteArray))))) (i0 : (st3R (intR) (slR 2 (st2R (strR) (intR))) (slR 2 (st2R (intR) (slR 1 (strR))))) W W.heap.size x0 l0) :
    Calls Try.prog 11 #[.agg l0.toArray] W fun e w' => e = .returned (.bool true) ∧ Below W.heap.size W w' := by
  have b0 := (br_st3 br_int (br_sl (k := 2) (br_st2 br_str br_int) rfl) (br_sl (k := 2) (br_st2 br_int (br_sl (k := 1) br_str rfl)) rfl))
  exact law_of (M_laws_FnExactJoinSets_ok (law_JoinSets (fu := 1048577) (Nat.le_refl _) (b0.get i0).2 (fun hw => hs_JoinSets (b0.get i0).2 hw)) (av0_ok W) (b0.st rfl i0))

open Go.ChangeShapes Go.WideShapes Go.ChangeAt Go.RowKit
open Go.ChangeMaps (open_string shut_string)
set_option linter.unusedVariables false

set_option maxRecDepth 100000 in
theorem lifted (os : Os) (started : os.Started) (H : Type) (enc : TypeId × Value → H) :
    ReturnsInHanded {} Try.checked os 11 .any (Rows.fnExactJoinSetsSpec.pre6 enc Try.prog Try.f11 Rows.fnExactJoinSetsRow.domain false) (Rows.fnExactJoinSetsSpec.post enc Try.prog Try.f11 false true false false) := by
  refine returnsInHanded_of_change (C := Try.checked) own started (by kernel_rfl) Try.func11
    (ChangeSpec.witness6 (enc := enc) (C := Try.checked) false ⟨#[], #[.agg #[.int .i64 0, .slice none 0 0, .slice none 0 0]], []⟩ 8 (by kernel_rfl) (by kernel_rfl) (by kernel_rfl) (by kernel_rfl)) ?_
  intro W base args ds gs before hval0 hW hcnd _
  have hval : ∀ (j : Nat) t v, Try.f11.params[j]? = some t → args[j]? = some v → Value.okWide Try.prog W .any base t v := hval0
  have hW' := hW
  have hltp := fun p hp => hW.lt p hp
  obtain ⟨p, q, hA0, hV, rfl, hfz, hnd⟩ := hW
  have hA : DataW.TrodAll enc Try.prog W 0 (fun _ => true) true Try.f11.params.toList args.toList ds p := hA0
  rw [Try.params11] at hA hval
  obtain ⟨v0, vs0, d0, ds0, p0, q0, hargs, rfl, rfl, h0, r0⟩ := trodAll_cons hA
  obtain ⟨rfl, rfl, rfl⟩ := trodAll_nil r0
  obtain rfl : args = #[v0] := by cases args; simp_all
  obtain ⟨rfl, rfl⟩ := trodVars_none hV
  have k0 := h0
  have lt0 : ∀ x ∈ p0, x.block < W.heap.size := by obtain ⟨m, hm⟩ := k0; exact DataW.trod_lt m _ _ _ hm
  obtain ⟨l0, x0, rfl, i0⟩ := arg_struct Try.underlying44 (opens_st3 Try.underlying44 (by kernel_rfl) (by kernel_rfl) (opens_int Try.underlying3) (opens_slice (k := 2) Try.underlying22 (by kernel_rfl) (by decide) (opens_st2 Try.underlying74 (by kernel_rfl) (by kernel_rfl) (opens_str Try.underlying9) (opens_int Try.underlying3))) (opens_slice (k := 2) Try.underlying42 (by kernel_rfl) (by decide) (opens_st2 Try.underlying120 (by kernel_rfl) (by kernel_rfl) (opens_int Try.underlying3) (opens_slice (k := 1) Try.underlying23 (by kernel_rfl) (by decide) (opens_str Try.underlying9))))) (hval 0 44 v0 rfl rfl) h0
  clear hA0 hval0
  refine (walk W l0 x0 i0).mono fun e W' ⟨he, bel⟩ => ?_
  subst he
  exact ⟨_, rfl, _, _, _, [], _, [], hW', trodAll_mk1 (shut_bool Try.underlying4 _), (trodAll_cons_mk (Below.trod laidOut (by kernel_rfl) (of_decide_eq_true (by kernel_rfl)) k0 bel lt0) trodAll_mk0), rfl, bel.frame _, fun h => by cases h⟩

theorem over : Rows.fnExactJoinSetsRow.holds Try.pinned (OpenSpec.ofChange Rows.fnExactJoinSetsSpec) :=
  OpenClaim.holds_of_wide 11 Try.f11 rfl rfl rfl rfl rfl rfl rfl ⟨rfl, rfl, rfl, rfl, rfl⟩ rfl rfl rfl rfl rfl (by kernel_rfl) Try.func11 (by kernel_rfl)
    (of_decide_eq_true (by kernel_rfl)) (by unfold Func.isWrapper; first | (rw [if_pos (by decide +kernel)]; kernel_rfl) | (rw [if_neg (by decide +kernel)]; exact ⟨rfl, rfl⟩))
    (fun os started H enc _ => lifted os started H enc)

/-- the given statement -/
theorem proved : Rows.FnExactJoinSetsSaid := over
end lawFnExactJoinSets
end Go.Proofs.Ytfcocbokgfmjfaa
