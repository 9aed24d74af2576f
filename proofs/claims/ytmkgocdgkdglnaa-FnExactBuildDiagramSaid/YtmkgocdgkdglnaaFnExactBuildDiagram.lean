/- The law FnExactBuildDiagram returns true for every input and leaves what was in memory as it was. Conditions: none. -/
import Derived.Test.YtmkgocdgkdglnaaZx8
namespace Go.Proofs.Ytmkgocdgkdglnaa
open Go.RowKit
namespace lawFnExactBuildDiagram
set_option linter.unusedVariables false
theorem walk (W : World) (l0 : List Value) (x0 : (List ((List ((Int) × (Int) × (Bool)))))) (i0 : (st1R (slR 1 (st1R (slR 3 (st3R (intR) (intR) (zLA)))))) W W.heap.size x0 l0) :
    Calls Try.prog 5 #[.agg l0.toArray] W fun e w' => e = .returned (.bool true) ∧ Below W.heap.size W w' := by
  have b0 := (zKy (zLx (k := 1) (zKy (zLx (k := 3) (zMD zL3 zL3 zLM) rfl)) rfl))
  exact zLw (zDf (zG7 (fu := 1048577) (Nat.le_refl _) (b0.get i0).2 (fun hw => zGM (b0.get i0).2 hw)) (zLz W) (b0.st rfl i0))
open Go.ChangeShapes Go.WideShapes Go.ChangeAt Go.RowKit
open Go.ChangeMaps (open_string shut_string)
set_option linter.unusedVariables false
set_option maxRecDepth 100000 in
theorem lifted (os : Os) (started : os.Started) (H : Type) (enc : TypeId × Value → H) :
    ReturnsInHanded {} Try.checked os 5 .any (Rows.fnExactBuildDiagramSpec.pre6 enc Try.prog Try.f5 Rows.fnExactBuildDiagramRow.domain false) (Rows.fnExactBuildDiagramSpec.post enc Try.prog Try.f5 false true false false) := by
  refine returnsInHanded_of_change (C := Try.checked) own started (by kernel_rfl) Try.func5
    (ChangeSpec.witness6 (enc := enc) (C := Try.checked) false ⟨#[], #[.agg #[.slice none 0 0]], []⟩ 8 (by kernel_rfl) (by kernel_rfl) (by kernel_rfl) (by kernel_rfl)) ?_
  intro W base args ds gs before hval0 hW hcnd _
  have hval : ∀ (j : Nat) t v, Try.f5.params[j]? = some t → args[j]? = some v → Value.okWide Try.prog W .any base t v := hval0
  have hW' := hW
  have hltp := fun p hp => hW.lt p hp
  obtain ⟨p, q, hA0, hV, rfl, hfz, hnd⟩ := hW
  have hA : DataW.TrodAll enc Try.prog W 0 (fun _ => true) true Try.f5.params.toList args.toList ds p := hA0
  rw [Try.params5] at hA hval
  obtain ⟨v0, vs0, d0, ds0, p0, q0, hargs, rfl, rfl, h0, r0⟩ := trodAll_cons hA
  obtain ⟨rfl, rfl, rfl⟩ := trodAll_nil r0
  obtain rfl : args = #[v0] := by cases args; simp_all
  obtain ⟨rfl, rfl⟩ := trodVars_none hV
  have k0 := h0
  have lt0 : ∀ x ∈ p0, x.block < W.heap.size := by obtain ⟨m, hm⟩ := k0; exact DataW.trod_lt m _ _ _ hm
  obtain ⟨l0, x0, rfl, i0⟩ := zJM Try.underlying24 (zHx Try.underlying24 (by kernel_rfl) (by kernel_rfl) (zGp (k := 1) Try.underlying22 (by kernel_rfl) (by decide) (zHx Try.underlying90 (by kernel_rfl) (by kernel_rfl) (zGp (k := 3) Try.underlying88 (by kernel_rfl) (by decide) (zJz Try.underlying130 (by kernel_rfl) (by kernel_rfl) (zHr Try.underlying3) (zHr Try.underlying3) (zJQ Try.underlying4)))))) (hval 0 24 v0 rfl rfl) h0
  clear hA0 hval0
  refine (walk W l0 x0 i0).mono fun e W' ⟨he, bel⟩ => ?_
  subst he
  exact ⟨_, rfl, _, _, _, [], _, [], hW', trodAll_mk1 (shut_bool Try.underlying4 _), (trodAll_cons_mk (Below.trod zLC (by kernel_rfl) (of_decide_eq_true (by kernel_rfl)) k0 bel lt0) trodAll_mk0), rfl, bel.frame _, fun h => by cases h⟩
theorem over : Rows.fnExactBuildDiagramRow.holds Try.pinned (OpenSpec.ofChange Rows.fnExactBuildDiagramSpec) :=
  OpenClaim.holds_of_wide 5 Try.f5 rfl rfl rfl rfl rfl rfl rfl ⟨rfl, rfl, rfl, rfl, rfl⟩ rfl rfl rfl rfl rfl (by kernel_rfl) Try.func5 (by kernel_rfl)
    (of_decide_eq_true (by kernel_rfl)) (by unfold Func.isWrapper; first | (rw [if_pos (by decide +kernel)]; kernel_rfl) | (rw [if_neg (by decide +kernel)]; exact ⟨rfl, rfl⟩))
    (fun os started H enc _ => lifted os started H enc)
/-- the given statement -/
theorem proved : Rows.FnExactBuildDiagramSaid := over
end lawFnExactBuildDiagram
end Go.Proofs.Ytmkgocdgkdglnaa
