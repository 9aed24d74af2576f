/- The law FnExactTestsEvaluated returns true for every input and leaves what was in memory as it was. Conditions: none. -/
import Derived.Test.YtjfhlhhobpdneaaFrame
import Derived.Test.YtjfhlhhobpdneaaBr
import Derived.Test.YtjfhlhhobpdneaaPev
namespace Go.Proofs.Ytjfhlhhobpdneaa
open Go.RowKit
namespace lawFnExactTestsEvaluated
set_option linter.unusedVariables false
theorem walk (W : World) (l0 : List Value) (x0 : (Int) × (List ((Int) × (Int) × (Int) × (Int)))) (i0 : (st2R (intR) (slR 4 (st4R (intR) (intR) (intR) (intR)))) W W.heap.size x0 l0) (A1 : Option Addr) (n1 c1 : Nat) (l1 : List (Int)) (i1 : slR 1 (intR) W W.heap.size l1 [.slice A1 n1 c1]) :
    Calls Try.prog 8 #[.agg l0.toArray, .slice A1 n1 c1] W fun e w' => e = .returned (.bool true) ∧ Below W.heap.size W w' := by
  have br := br_st2 br_int (br_sl (br_st4 br_int br_int br_int br_int) rfl)
  have bx := br_sl (k := 1) br_int rfl
  exact law_of (M_laws_FnExactTestsEvaluated_ok (law_te (br.get i0).2.2.1) (av0_ok W) (br.st rfl i0) (bx.cell rfl i1))

open Go.ChangeShapes Go.WideShapes Go.ChangeAt Go.RowKit
open Go.ChangeMaps (open_string shut_string)
set_option linter.unusedVariables false

set_option maxRecDepth 100000 in
theorem lifted (os : Os) (started : os.Started) (H : Type) (enc : TypeId × Value → H) :
    ReturnsInHanded {} Try.checked os 8 .any (Rows.fnExactTestsEvaluatedSpec.pre6 enc Try.prog Try.f8 Rows.fnExactTestsEvaluatedRow.domain false) (Rows.fnExactTestsEvaluatedSpec.post enc Try.prog Try.f8 false true false false) := by
  refine returnsInHanded_of_change (C := Try.checked) own started (by kernel_rfl) Try.func8
    (ChangeSpec.witness6 (enc := enc) (C := Try.checked) false ⟨#[], #[.agg #[.int .i64 0, .slice none 0 0], .slice none 0 0], []⟩ 8 (by kernel_rfl) (by kernel_rfl) (by kernel_rfl) (by kernel_rfl)) ?_
  intro W base args ds gs before hval0 hW hcnd _
  have hval : ∀ (j : Nat) t v, Try.f8.params[j]? = some t → args[j]? = some v → Value.okWide Try.prog W .any base t v := hval0
  have hW' := hW
  have hltp := fun p hp => hW.lt p hp
  obtain ⟨p, q, hA0, hV, rfl, hfz, hnd⟩ := hW
  have hA : DataW.TrodAll enc Try.prog W 0 (fun _ => true) true Try.f8.params.toList args.toList ds p := hA0
  rw [Try.params8] at hA hval
  obtain ⟨v0, vs0, d0, ds0, p0, q0, hargs, rfl, rfl, h0, r0⟩ := trodAll_cons hA
  obtain ⟨v1, vs1, d1, ds1, p1, q1, rfl, rfl, rfl, h1, r1⟩ := trodAll_cons r0
  obtain ⟨rfl, rfl, rfl⟩ := trodAll_nil r1
  obtain rfl : args = #[v0, v1] := by cases args; simp_all
  obtain ⟨rfl, rfl⟩ := trodVars_none hV
  have k0 := h0
  have lt0 : ∀ x ∈ p0, x.block < W.heap.size := by obtain ⟨m, hm⟩ := k0; exact DataW.trod_lt m _ _ _ hm
  have k1 := h1
  have lt1 : ∀ x ∈ p1, x.block < W.heap.size := by obtain ⟨m, hm⟩ := k1; exact DataW.trod_lt m _ _ _ hm
  obtain ⟨l0, x0, rfl, i0⟩ := arg_struct Try.underlying38 (opens_st2 Try.underlying38 (by kernel_rfl) (by kernel_rfl) (opens_int Try.underlying3) (opens_slice (k := 4) Try.underlying36 (by kernel_rfl) (by decide) (opens_st4 Try.underlying137 (by kernel_rfl) (by kernel_rfl) (opens_int Try.underlying3) (opens_int Try.underlying3) (opens_int Try.underlying3) (opens_int Try.underlying3)))) (hval 0 38 v0 rfl rfl) h0
  obtain ⟨A1, n1, c1, l1, rfl, i1⟩ := arg_slice Try.underlying25 (opens_slice (k := 1) Try.underlying25 (by kernel_rfl) (by decide) (opens_int Try.underlying3)) (hval 1 25 v1 rfl rfl) h1
  clear hA0 hval0
  refine (walk W l0 x0 i0 A1 n1 c1 l1 i1).mono fun e W' ⟨he, bel⟩ => ?_
  subst he
  exact ⟨_, rfl, _, _, _, [], _, [], hW', trodAll_mk1 (shut_bool Try.underlying4 _), (trodAll_cons_mk (Below.trod laidOut (by kernel_rfl) (of_decide_eq_true (by kernel_rfl)) k0 bel lt0) (trodAll_cons_mk (Below.trod laidOut (by kernel_rfl) (of_decide_eq_true (by kernel_rfl)) k1 bel lt1) trodAll_mk0)), rfl, bel.frame _, fun h => by cases h⟩

theorem over : Rows.fnExactTestsEvaluatedRow.holds Try.pinned (OpenSpec.ofChange Rows.fnExactTestsEvaluatedSpec) :=
  OpenClaim.holds_of_wide 8 Try.f8 rfl rfl rfl rfl rfl rfl rfl ⟨rfl, rfl, rfl, rfl, rfl⟩ rfl rfl rfl rfl rfl (by kernel_rfl) Try.func8 (by kernel_rfl)
    (of_decide_eq_true (by kernel_rfl)) (by unfold Func.isWrapper; first | (rw [if_pos (by decide +kernel)]; kernel_rfl) | (rw [if_neg (by decide +kernel)]; exact ⟨rfl, rfl⟩))
    (fun os started H enc _ => lifted os started H enc)

/-- the given statement -/
theorem proved : Rows.FnExactTestsEvaluatedSaid := over
end lawFnExactTestsEvaluated
end Go.Proofs.Ytjfhlhhobpdneaa
