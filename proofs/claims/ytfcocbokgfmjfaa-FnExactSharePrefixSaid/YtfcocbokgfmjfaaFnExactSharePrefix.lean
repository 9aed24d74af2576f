/- The law FnExactSharePrefix returns true for every input and leaves what was in memory as it was. Conditions: none. -/
import Derived.Test.YtfcocbokgfmjfaaFrame
import Derived.Test.YtfcocbokgfmjfaaBr
import Derived.Test.YtfcocbokgfmjfaaAh
import Derived.Test.YtfcocbokgfmjfaaAshare
namespace Go.Proofs.Ytfcocbokgfmjfaa
open Go.RowKit
namespace lawFnExactSharePrefix
set_option linter.unusedVariables false
theorem walk (W : World) (A0 : Option Addr) (n0 c0 : Nat) (l0 : List ((ByteArray) × (Int))) (i0 : slR 2 (st2R (strR) (intR)) W W.heap.size l0 [.slice A0 n0 c0]) (A1 : Option Addr) (n1 c1 : Nat) (l1 : List (ByteArray)) (i1 : slR 1 (strR) W W.heap.size l1 [.slice A1 n1 c1]) (A2 : Option Addr) (n2 c2 : Nat) (l2 : List (ByteArray)) (i2 : slR 1 (strR) W W.heap.size l2 [.slice A2 n2 c2]) (a3 : Int) (i3 : I64 a3) :
    Calls Try.prog 12 #[.slice A0 n0 c0, .slice A1 n1 c1, .slice A2 n2 c2, .int .i64 a3] W fun e w' => e = .returned (.bool true) ∧ Below W.heap.size W w' := by
  have b0 := (br_sl (k := 2) (br_st2 br_str br_int) rfl)
  have b1 := (br_sl (k := 1) br_str rfl)
  have b2 := (br_sl (k := 1) br_str rfl)
  have b3 := br_int
  exact law_of (M_laws_FnExactSharePrefix_ok (law_SharePrefix (fu := 1048577) (Nat.le_refl _) (b0.get i0).2 (b1.get i1).2 (b2.get i2).2 (b3.get (w := W) ⟨rfl, i3⟩).2 (fun hw => hs_SharePrefix (b0.get i0).2 (b1.get i1).2 (b2.get i2).2 (b3.get (w := W) ⟨rfl, i3⟩).2 hw)) (av0_ok W) (b0.cell rfl i0) (b1.cell rfl i1) (b2.cell rfl i2) rfl)

open Go.ChangeShapes Go.WideShapes Go.ChangeAt Go.RowKit
open Go.ChangeMaps (open_string shut_string)
set_option linter.unusedVariables false

set_option maxRecDepth 100000 in
theorem lifted (os : Os) (started : os.Started) (H : Type) (enc : TypeId × Value → H) :
    ReturnsInHanded {} Try.checked os 12 .any (Rows.fnExactSharePrefixSpec.pre6 enc Try.prog Try.f12 Rows.fnExactSharePrefixRow.domain false) (Rows.fnExactSharePrefixSpec.post enc Try.prog Try.f12 false true false false) := by
  refine returnsInHanded_of_change (C := Try.checked) own started (by kernel_rfl) Try.func12
    (ChangeSpec.witness6 (enc := enc) (C := Try.checked) false ⟨#[], #[.slice none 0 0, .slice none 0 0, .slice none 0 0, .int .i64 0], []⟩ 8 (by kernel_rfl) (by kernel_rfl) (by kernel_rfl) (by kernel_rfl)) ?_
  intro W base args ds gs before hval0 hW hcnd _
  have hval : ∀ (j : Nat) t v, Try.f12.params[j]? = some t → args[j]? = some v → Value.okWide Try.prog W .any base t v := hval0
  have hW' := hW
  have hltp := fun p hp => hW.lt p hp
  obtain ⟨p, q, hA0, hV, rfl, hfz, hnd⟩ := hW
  have hA : DataW.TrodAll enc Try.prog W 0 (fun _ => true) true Try.f12.params.toList args.toList ds p := hA0
  rw [Try.params12] at hA hval
  obtain ⟨v0, vs0, d0, ds0, p0, q0, hargs, rfl, rfl, h0, r0⟩ := trodAll_cons hA
  obtain ⟨v1, vs1, d1, ds1, p1, q1, rfl, rfl, rfl, h1, r1⟩ := trodAll_cons r0
  obtain ⟨v2, vs2, d2, ds2, p2, q2, rfl, rfl, rfl, h2, r2⟩ := trodAll_cons r1
  obtain ⟨v3, vs3, d3, ds3, p3, q3, rfl, rfl, rfl, h3, r3⟩ := trodAll_cons r2
  obtain ⟨rfl, rfl, rfl⟩ := trodAll_nil r3
  obtain rfl : args = #[v0, v1, v2, v3] := by cases args; simp_all
  obtain ⟨rfl, rfl⟩ := trodVars_none hV
  have k0 := h0
  have lt0 : ∀ x ∈ p0, x.block < W.heap.size := by obtain ⟨m, hm⟩ := k0; exact DataW.trod_lt m _ _ _ hm
  have k1 := h1
  have lt1 : ∀ x ∈ p1, x.block < W.heap.size := by obtain ⟨m, hm⟩ := k1; exact DataW.trod_lt m _ _ _ hm
  have k2 := h2
  have lt2 : ∀ x ∈ p2, x.block < W.heap.size := by obtain ⟨m, hm⟩ := k2; exact DataW.trod_lt m _ _ _ hm
  have k3 := h3
  have lt3 : ∀ x ∈ p3, x.block < W.heap.size := by obtain ⟨m, hm⟩ := k3; exact DataW.trod_lt m _ _ _ hm
  obtain ⟨A0, n0, c0, l0, rfl, i0⟩ := arg_slice Try.underlying22 (opens_slice (k := 2) Try.underlying22 (by kernel_rfl) (by decide) (opens_st2 Try.underlying74 (by kernel_rfl) (by kernel_rfl) (opens_str Try.underlying9) (opens_int Try.underlying3))) (hval 0 22 v0 rfl rfl) h0
  obtain ⟨A1, n1, c1, l1, rfl, i1⟩ := arg_slice Try.underlying23 (opens_slice (k := 1) Try.underlying23 (by kernel_rfl) (by decide) (opens_str Try.underlying9)) (hval 1 23 v1 rfl rfl) h1
  obtain ⟨A2, n2, c2, l2, rfl, i2⟩ := arg_slice Try.underlying23 (opens_slice (k := 1) Try.underlying23 (by kernel_rfl) (by decide) (opens_str Try.underlying9)) (hval 2 23 v2 rfl rfl) h2
  obtain ⟨a3, rfl, rfl, rfl, i3⟩ := open_int Try.underlying3 (hval 3 3 v3 rfl rfl) h3
  clear hA0 hval0
  refine (walk W A0 n0 c0 l0 i0 A1 n1 c1 l1 i1 A2 n2 c2 l2 i2 a3 i3).mono fun e W' ⟨he, bel⟩ => ?_
  subst he
  exact ⟨_, rfl, _, _, _, [], _, [], hW', trodAll_mk1 (shut_bool Try.underlying4 _), (trodAll_cons_mk (Below.trod laidOut (by kernel_rfl) (of_decide_eq_true (by kernel_rfl)) k0 bel lt0) (trodAll_cons_mk (Below.trod laidOut (by kernel_rfl) (of_decide_eq_true (by kernel_rfl)) k1 bel lt1) (trodAll_cons_mk (Below.trod laidOut (by kernel_rfl) (of_decide_eq_true (by kernel_rfl)) k2 bel lt2) (trodAll_cons_mk (Below.trod laidOut (by kernel_rfl) (of_decide_eq_true (by kernel_rfl)) k3 bel lt3) trodAll_mk0)))), rfl, bel.frame _, fun h => by cases h⟩

theorem over : Rows.fnExactSharePrefixRow.holds Try.pinned (OpenSpec.ofChange Rows.fnExactSharePrefixSpec) :=
  OpenClaim.holds_of_wide 12 Try.f12 rfl rfl rfl rfl rfl rfl rfl ⟨rfl, rfl, rfl, rfl, rfl⟩ rfl rfl rfl rfl rfl (by kernel_rfl) Try.func12 (by kernel_rfl)
    (of_decide_eq_true (by kernel_rfl)) (by unfold Func.isWrapper; first | (rw [if_pos (by decide +kernel)]; kernel_rfl) | (rw [if_neg (by decide +kernel)]; exact ⟨rfl, rfl⟩))
    (fun os started H enc _ => lifted os started H enc)

/-- the given statement -/
theorem proved : Rows.FnExactSharePrefixSaid := over
end lawFnExactSharePrefix
end Go.Proofs.Ytfcocbokgfmjfaa
