/- The law FnExactInsertSet returns true for every input and leaves what was in memory as it was. Conditions: none. -/
import Derived.Test.YtmgiijdejigdhaaFrame
import Derived.Test.YtmgiijdejigdhaaBr
import Derived.Test.YtmgiijdejigdhaaEh
import Derived.Test.YtmgiijdejigdhaaEris
namespace Go.Proofs.Ytmgiijdejigdhaa
open Go.RowKit
namespace lawFnExactInsertSet
set_option linter.unusedVariables false
theorem walk (W : World) (l0 : List Value) (x0 : (Int) × (List ((ByteArray) × (Int))) × (List ((Int) × (List (ByteArray))))) (i0 : (st3R (intR) (slR 2 (st2R (strR) (intR))) (slR 2 (st2R (intR) (slR 1 (strR))))) W W.heap.size x0 l0) (a1 : Int) (i1 : I64 a1) (A2 : Option Addr) (n2 c2 : Nat) (l2 : List (ByteArray)) (i2 : slR 1 (strR) W W.heap.size l2 [.slice A2 n2 c2]) :
    Calls Try.prog 4 #[.agg l0.toArray, .int .i64 a1, .slice A2 n2 c2] W fun e w' => e = .returned (.bool true) ∧ Below W.heap.size W w' := by
  have b0 := (br_st3 br_int (br_sl (k := 2) (br_st2 br_str br_int) rfl) (br_sl (k := 2) (br_st2 br_int (br_sl (k := 1) br_str rfl)) rfl))
  have b1 := br_int
  have b2 := (br_sl (k := 1) br_str rfl)
  exact law_of (M_laws_FnExactInsertSet_ok (law_InsertSet (fu := 1100001) (Nat.le_refl _) (b0.get i0).2 (b1.get (w := W) ⟨rfl, i1⟩).2 (b2.get i2).2 (fun hw => hs_InsertSet (fu := 1100001) (by omega) (b0.get i0).2 (b1.get (w := W) ⟨rfl, i1⟩).2 (b2.get i2).2 hw)) (av0_ok W) (b0.st rfl i0) rfl (b2.cell rfl i2))

open Go.ChangeShapes Go.WideShapes Go.ChangeAt Go.RowKit
open Go.ChangeMaps (open_string shut_string)
set_option linter.unusedVariables false

set_option maxRecDepth 100000 in
theorem lifted (os : Os) (started : os.Started) (H : Type) (enc : TypeId × Value → H) :
    ReturnsInHanded {} Try.checked os 4 .any (Rows.fnExactInsertSetSpec.pre6 enc Try.prog Try.f4 Rows.fnExactInsertSetRow.domain false) (Rows.fnExactInsertSetSpec.post enc Try.prog Try.f4 false true false false) := by
  refine returnsInHanded_of_change (C := Try.checked) own started (by kernel_rfl) Try.func4
    (ChangeSpec.witness6 (enc := enc) (C := Try.checked) false ⟨#[], #[.agg #[.int .i64 0, .slice none 0 0, .slice none 0 0], .int .i64 0, .slice none 0 0], []⟩ 8 (by kernel_rfl) (by kernel_rfl) (by kernel_rfl) (by kernel_rfl)) ?_
  intro W base args ds gs before hval0 hW hcnd _
  have hval : ∀ (j : Nat) t v, Try.f4.params[j]? = some t → args[j]? = some v → Value.okWide Try.prog W .any base t v := hval0
  have hW' := hW
  have hltp := fun p hp => hW.lt p hp
  obtain ⟨p, q, hA0, hV, rfl, hfz, hnd⟩ := hW
  have hA : DataW.TrodAll enc Try.prog W 0 (fun _ => true) true Try.f4.params.toList args.toList ds p := hA0
  rw [Try.params4] at hA hval
  obtain ⟨v0, vs0, d0, ds0, p0, q0, hargs, rfl, rfl, h0, r0⟩ := trodAll_cons hA
  obtain ⟨v1, vs1, d1, ds1, p1, q1, rfl, rfl, rfl, h1, r1⟩ := trodAll_cons r0
  obtain ⟨v2, vs2, d2, ds2, p2, q2, rfl, rfl, rfl, h2, r2⟩ := trodAll_cons r1
  obtain ⟨rfl, rfl, rfl⟩ := trodAll_nil r2
  obtain rfl : args = #[v0, v1, v2] := by cases args; simp_all
  obtain ⟨rfl, rfl⟩ := trodVars_none hV
  have k0 := h0
  have lt0 : ∀ x ∈ p0, x.block < W.heap.size := by obtain ⟨m, hm⟩ := k0; exact DataW.trod_lt m _ _ _ hm
  have k1 := h1
  have lt1 : ∀ x ∈ p1, x.block < W.heap.size := by obtain ⟨m, hm⟩ := k1; exact DataW.trod_lt m _ _ _ hm
  have k2 := h2
  have lt2 : ∀ x ∈ p2, x.block < W.heap.size := by obtain ⟨m, hm⟩ := k2; exact DataW.trod_lt m _ _ _ hm
  obtain ⟨l0, x0, rfl, i0⟩ := arg_struct Try.underlying25 (opens_st3 Try.underlying25 (by kernel_rfl) (by kernel_rfl) (opens_int Try.underlying3) (opens_slice (k := 2) Try.underlying22 (by kernel_rfl) (by decide) (opens_st2 Try.underlying66 (by kernel_rfl) (by kernel_rfl) (opens_str Try.underlying9) (opens_int Try.underlying3))) (opens_slice (k := 2) Try.underlying23 (by kernel_rfl) (by decide) (opens_st2 Try.underlying68 (by kernel_rfl) (by kernel_rfl) (opens_int Try.underlying3) (opens_slice (k := 1) Try.underlying37 (by kernel_rfl) (by decide) (opens_str Try.underlying9))))) (hval 0 25 v0 rfl rfl) h0
  obtain ⟨a1, rfl, rfl, rfl, i1⟩ := open_int Try.underlying3 (hval 1 3 v1 rfl rfl) h1
  obtain ⟨A2, n2, c2, l2, rfl, i2⟩ := arg_slice Try.underlying37 (opens_slice (k := 1) Try.underlying37 (by kernel_rfl) (by decide) (opens_str Try.underlying9)) (hval 2 37 v2 rfl rfl) h2
  clear hA0 hval0
  refine (walk W l0 x0 i0 a1 i1 A2 n2 c2 l2 i2).mono fun e W' ⟨he, bel⟩ => ?_
  subst he
  exact ⟨_, rfl, _, _, _, [], _, [], hW', trodAll_mk1 (shut_bool Try.underlying4 _), (trodAll_cons_mk (Below.trod laidOut (by kernel_rfl) (of_decide_eq_true (by kernel_rfl)) k0 bel lt0) (trodAll_cons_mk (Below.trod laidOut (by kernel_rfl) (of_decide_eq_true (by kernel_rfl)) k1 bel lt1) (trodAll_cons_mk (Below.trod laidOut (by kernel_rfl) (of_decide_eq_true (by kernel_rfl)) k2 bel lt2) trodAll_mk0))), rfl, bel.frame _, fun h => by cases h⟩

theorem over : Rows.fnExactInsertSetRow.holds Try.pinned (OpenSpec.ofChange Rows.fnExactInsertSetSpec) :=
  OpenClaim.holds_of_wide 4 Try.f4 rfl rfl rfl rfl rfl rfl rfl ⟨rfl, rfl, rfl, rfl, rfl⟩ rfl rfl rfl rfl rfl (by kernel_rfl) Try.func4 (by kernel_rfl)
    (of_decide_eq_true (by kernel_rfl)) (by unfold Func.isWrapper; first | (rw [if_pos (by decide +kernel)]; kernel_rfl) | (rw [if_neg (by decide +kernel)]; exact ⟨rfl, rfl⟩))
    (fun os started H enc _ => lifted os started H enc)

/-- the given statement -/
theorem proved : Rows.FnExactInsertSetSaid := over
end lawFnExactInsertSet
end Go.Proofs.Ytmgiijdejigdhaa
