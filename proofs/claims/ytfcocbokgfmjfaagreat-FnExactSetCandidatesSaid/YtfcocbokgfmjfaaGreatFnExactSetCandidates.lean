/- The law FnExactSetCandidates returns true for every input and leaves what was in memory as it was. Conditions: none. -/
import Derived.Test.YtfcocbokgfmjfaaGreatFrame
import Derived.Test.YtfcocbokgfmjfaaGreatBr
import Derived.Test.YtfcocbokgfmjfaaGreatCh
import Derived.Test.YtfcocbokgfmjfaaGreatCcand
namespace Go.Proofs.YtfcocbokgfmjfaaGreat
open Go.RowKit
namespace lawFnExactSetCandidates
set_option linter.unusedVariables false
theorem walk (W : World) (l0 : List Value) (x0 : (Int) × (List ((ByteArray) × (Int))) × (List ((Int) × (List (ByteArray))))) (i0 : (st3R (intR) (slR 2 (st2R (strR) (intR))) (slR 2 (st2R (intR) (slR 1 (strR))))) W W.heap.size x0 l0) (A1 : Option Addr) (n1 c1 : Nat) (l1 : List (ByteArray)) (i1 : slR 1 (strR) W W.heap.size l1 [.slice A1 n1 c1]) :
    Calls Tryz.prog 3 #[.agg l0.toArray, .slice A1 n1 c1] W fun e w' => e = .returned (.bool true) ∧ Below W.heap.size W w' := by
  have b0 := (br_st3 br_int (br_sl (k := 2) (br_st2 br_str br_int) rfl) (br_sl (k := 2) (br_st2 br_int (br_sl (k := 1) br_str rfl)) rfl))
  have b1 := (br_sl (k := 1) br_str rfl)
  exact law_of (M_laws_FnExactSetCandidates_ok (law_SetCandidates (fu := 1048577) (Nat.le_refl _) (b0.get i0).2 (b1.get i1).2 (fun hw => hs_SetCandidates (b0.get i0).2 (b1.get i1).2 hw)) (av0_ok W) (b0.st rfl i0) (b1.cell rfl i1))

open Go.ChangeShapes Go.WideShapes Go.ChangeAt Go.RowKit
open Go.ChangeMaps (open_string shut_string)
set_option linter.unusedVariables false

set_option maxRecDepth 100000 in
theorem lifted (os : Os) (started : os.Started) (H : Type) (enc : TypeId × Value → H) :
    ReturnsInHanded {} Tryz.checked os 3 .any (Rows.fnExactSetCandidatesSpec.pre6 enc Tryz.prog Tryz.f3 Rows.fnExactSetCandidatesRow.domain false) (Rows.fnExactSetCandidatesSpec.post enc Tryz.prog Tryz.f3 false true false false) := by
  refine returnsInHanded_of_change (C := Tryz.checked) own started (by kernel_rfl) Tryz.func3
    (ChangeSpec.witness6 (enc := enc) (C := Tryz.checked) false ⟨#[], #[.agg #[.int .i64 0, .slice none 0 0, .slice none 0 0], .slice none 0 0], []⟩ 8 (by kernel_rfl) (by kernel_rfl) (by kernel_rfl) (by kernel_rfl)) ?_
  intro W base args ds gs before hval0 hW hcnd _
  have hval : ∀ (j : Nat) t v, Tryz.f3.params[j]? = some t → args[j]? = some v → Value.okWide Tryz.prog W .any base t v := hval0
  have hW' := hW
  have hltp := fun p hp => hW.lt p hp
  obtain ⟨p, q, hA0, hV, rfl, hfz, hnd⟩ := hW
  have hA : DataW.TrodAll enc Tryz.prog W 0 (fun _ => true) true Tryz.f3.params.toList args.toList ds p := hA0
  rw [Tryz.params3] at hA hval
  obtain ⟨v0, vs0, d0, ds0, p0, q0, hargs, rfl, rfl, h0, r0⟩ := trodAll_cons hA
  obtain ⟨v1, vs1, d1, ds1, p1, q1, rfl, rfl, rfl, h1, r1⟩ := trodAll_cons r0
  obtain ⟨rfl, rfl, rfl⟩ := trodAll_nil r1
  obtain rfl : args = #[v0, v1] := by cases args; simp_all
  obtain ⟨rfl, rfl⟩ := trodVars_none hV
  have k0 := h0
  have lt0 : ∀ x ∈ p0, x.block < W.heap.size := by obtain ⟨m, hm⟩ := k0; exact DataW.trod_lt m _ _ _ hm
  have k1 := h1
  have lt1 : ∀ x ∈ p1, x.block < W.heap.size := by obtain ⟨m, hm⟩ := k1; exact DataW.trod_lt m _ _ _ hm
  obtain ⟨l0, x0, rfl, i0⟩ := arg_struct Tryz.underlying25 (opens_st3 Tryz.underlying25 (by kernel_rfl) (by kernel_rfl) (opens_int Tryz.underlying3) (opens_slice (k := 2) Tryz.underlying22 (by kernel_rfl) (by decide) (opens_st2 Tryz.underlying83 (by kernel_rfl) (by kernel_rfl) (opens_str Tryz.underlying9) (opens_int Tryz.underlying3))) (opens_slice (k := 2) Tryz.underlying23 (by kernel_rfl) (by decide) (opens_st2 Tryz.underlying85 (by kernel_rfl) (by kernel_rfl) (opens_int Tryz.underlying3) (opens_slice (k := 1) Tryz.underlying26 (by kernel_rfl) (by decide) (opens_str Tryz.underlying9))))) (hval 0 25 v0 rfl rfl) h0
  obtain ⟨A1, n1, c1, l1, rfl, i1⟩ := arg_slice Tryz.underlying26 (opens_slice (k := 1) Tryz.underlying26 (by kernel_rfl) (by decide) (opens_str Tryz.underlying9)) (hval 1 26 v1 rfl rfl) h1
  clear hA0 hval0
  refine (walk W l0 x0 i0 A1 n1 c1 l1 i1).mono fun e W' ⟨he, bel⟩ => ?_
  subst he
  exact ⟨_, rfl, _, _, _, [], _, [], hW', trodAll_mk1 (shut_bool Tryz.underlying4 _), (trodAll_cons_mk (Below.trod laidOut (by kernel_rfl) (of_decide_eq_true (by kernel_rfl)) k0 bel lt0) (trodAll_cons_mk (Below.trod laidOut (by kernel_rfl) (of_decide_eq_true (by kernel_rfl)) k1 bel lt1) trodAll_mk0)), rfl, bel.frame _, fun h => by cases h⟩

theorem over : Rows.fnExactSetCandidatesRow.holds Tryz.pinned (OpenSpec.ofChange Rows.fnExactSetCandidatesSpec) :=
  OpenClaim.holds_of_wide 3 Tryz.f3 rfl rfl rfl rfl rfl rfl rfl ⟨rfl, rfl, rfl, rfl, rfl⟩ rfl rfl rfl rfl rfl (by kernel_rfl) Tryz.func3 (by kernel_rfl)
    (of_decide_eq_true (by kernel_rfl)) (by unfold Func.isWrapper; first | (rw [if_pos (by decide +kernel)]; kernel_rfl) | (rw [if_neg (by decide +kernel)]; exact ⟨rfl, rfl⟩))
    (fun os started H enc _ => lifted os started H enc)

/-- the given statement -/
theorem proved : Rows.FnExactSetCandidatesSaid := over
end lawFnExactSetCandidates
end Go.Proofs.YtfcocbokgfmjfaaGreat
