/- The law FnExactNewSetIndex returns true for every input and leaves what was in memory as it was. Conditions: none. -/
import Derived.Test.YtfcocbokgfmjfaaFrame
import Derived.Test.YtfcocbokgfmjfaaBr
import Derived.Test.YtfcocbokgfmjfaaNh
import Derived.Test.YtfcocbokgfmjfaaNnsi
namespace Go.Proofs.Ytfcocbokgfmjfaa
open Go.RowKit
namespace lawFnExactNewSetIndex
set_option linter.unusedVariables false
theorem walk (W : World) (A0 : Option Addr) (n0 c0 : Nat) (l0 : List ((ByteArray) × (Int))) (i0 : slR 2 (st2R (strR) (intR)) W W.heap.size l0 [.slice A0 n0 c0]) (a1 : Int) (i1 : I64 a1) :
    Calls Try.prog 7 #[.slice A0 n0 c0, .int .i64 a1] W fun e w' => e = .returned (.bool true) ∧ Below W.heap.size W w' := by
  have b0 := (br_sl (k := 2) (br_st2 br_str br_int) rfl)
  have b1 := br_int
  exact law_of (M_laws_FnExactNewSetIndex_ok (law_NewSetIndex (fu := 1048577) (Nat.le_refl _) (b0.get i0).2 (b1.get (w := W) ⟨rfl, i1⟩).2 (fun hw => hs_NewSetIndex (b0.get i0).2 (b1.get (w := W) ⟨rfl, i1⟩).2 hw)) (av0_ok W) (b0.cell rfl i0) rfl)

open Go.ChangeShapes Go.WideShapes Go.ChangeAt Go.RowKit
open Go.ChangeMaps (open_string shut_string)
set_option linter.unusedVariables false

set_option maxRecDepth 100000 in
theorem lifted (os : Os) (started : os.Started) (H : Type) (enc : TypeId × Value → H) :
    ReturnsInHanded {} Try.checked os 7 .any (Rows.fnExactNewSetIndexSpec.pre6 enc Try.prog Try.f7 Rows.fnExactNewSetIndexRow.domain false) (Rows.fnExactNewSetIndexSpec.post enc Try.prog Try.f7 false true false false) := by
  refine returnsInHanded_of_change (C := Try.checked) own started (by kernel_rfl) Try.func7
    (ChangeSpec.witness6 (enc := enc) (C := Try.checked) false ⟨#[], #[.slice none 0 0, .int .i64 0], []⟩ 8 (by kernel_rfl) (by kernel_rfl) (by kernel_rfl) (by kernel_rfl)) ?_
  intro W base args ds gs before hval0 hW hcnd _
  have hval : ∀ (j : Nat) t v, Try.f7.params[j]? = some t → args[j]? = some v → Value.okWide Try.prog W .any base t v := hval0
  have hW' := hW
  have hltp := fun p hp => hW.lt p hp
  obtain ⟨p, q, hA0, hV, rfl, hfz, hnd⟩ := hW
  have hA : DataW.TrodAll enc Try.prog W 0 (fun _ => true) true Try.f7.params.toList args.toList ds p := hA0
  rw [Try.params7] at hA hval
  obtain ⟨v0, vs0, d0, ds0, p0, q0, hargs, rfl, rfl, h0, r0⟩ := trodAll_cons hA
  obtain ⟨v1, vs1, d1, ds1, p1, q1, rfl, rfl, rfl, h1, r1⟩ := trodAll_cons r0
  obtain ⟨rfl, rfl, rfl⟩ := trodAll_nil r1
  obtain rfl : args = #[v0, v1] := by cases args; simp_all
  obtain ⟨rfl, rfl⟩ := trodVars_none hV
  have k0 := h0
  have lt0 : ∀ x ∈ p0, x.block < W.heap.size := by obtain ⟨m, hm⟩ := k0; exact DataW.trod_lt m _ _ _ hm
  have k1 := h1
  have lt1 : ∀ x ∈ p1, x.block < W.heap.size := by obtain ⟨m, hm⟩ := k1; exact DataW.trod_lt m _ _ _ hm
  obtain ⟨A0, n0, c0, l0, rfl, i0⟩ := arg_slice Try.underlying22 (opens_slice (k := 2) Try.underlying22 (by kernel_rfl) (by decide) (opens_st2 Try.underlying74 (by kernel_rfl) (by kernel_rfl) (opens_str Try.underlying9) (opens_int Try.underlying3))) (hval 0 22 v0 rfl rfl) h0
  obtain ⟨a1, rfl, rfl, rfl, i1⟩ := open_int Try.underlying3 (hval 1 3 v1 rfl rfl) h1
  clear hA0 hval0
  refine (walk W A0 n0 c0 l0 i0 a1 i1).mono fun e W' ⟨he, bel⟩ => ?_
  subst he
  exact ⟨_, rfl, _, _, _, [], _, [], hW', trodAll_mk1 (shut_bool Try.underlying4 _), (trodAll_cons_mk (Below.trod laidOut (by kernel_rfl) (of_decide_eq_true (by kernel_rfl)) k0 bel lt0) (trodAll_cons_mk (Below.trod laidOut (by kernel_rfl) (of_decide_eq_true (by kernel_rfl)) k1 bel lt1) trodAll_mk0)), rfl, bel.frame _, fun h => by cases h⟩

theorem over : Rows.fnExactNewSetIndexRow.holds Try.pinned (OpenSpec.ofChange Rows.fnExactNewSetIndexSpec) :=
  OpenClaim.holds_of_wide 7 Try.f7 rfl rfl rfl rfl rfl rfl rfl ⟨rfl, rfl, rfl, rfl, rfl⟩ rfl rfl rfl rfl rfl (by kernel_rfl) Try.func7 (by kernel_rfl)
    (of_decide_eq_true (by kernel_rfl)) (by unfold Func.isWrapper; first | (rw [if_pos (by decide +kernel)]; kernel_rfl) | (rw [if_neg (by decide +kernel)]; exact ⟨rfl, rfl⟩))
    (fun os started H enc _ => lifted os started H enc)

/-- the given statement -/
theorem proved : Rows.FnExactNewSetIndexSaid := over
end lawFnExactNewSetIndex
end Go.Proofs.Ytfcocbokgfmjfaa
