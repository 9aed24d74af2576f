/- Printed by dec.py: plain functions and the proofs that the code computes them. No statement of the seat is proved here. -/
import Derived.Test.YtmkgocdgkdglnaaA1
namespace Go.Proofs.Ytmkgocdgkdglnaa
open Go.RowKit
set_option linter.unusedVariables false
def M_spec_l14Grid_L2 (fu : Nat) (y8 : List (List Int)) (x10 : List Int) (y19 : Int) : Nat → Int → (List (List Int)) → Option (List (List Int))
  | 0, _, _ => none
  | k + 1, y25, y26 =>
    bif (decide (y25 < (x10.length : Int))) then (
      ck (inR y19 y8.length) <|
      ck (lenOK (([] : List Int).length + (gtD y8 y19).length)) <|
      ck (inR y25 x10.length) <|
      ck (lenOK ((([] : List Int) ++ (gtD y8 y19)).length + ([(gtD x10 y25)] : List Int).length)) <|
      ck (lenOK (y26.length + ([((([] : List Int) ++ (gtD y8 y19)) ++ ([(gtD x10 y25)] : List Int))] : List (List Int)).length)) <|
      ck (i64B (y25 + (1 : Int))) <|
      M_spec_l14Grid_L2 fu y8 x10 y19 k (y25 + (1 : Int)) (y26 ++ ([((([] : List Int) ++ (gtD y8 y19)) ++ ([(gtD x10 y25)] : List Int))] : List (List Int)))
    ) else (
      some y26
    )
def M_spec_l14Grid_L1 (fu : Nat) (y8 : List (List Int)) (x10 : List Int) : Nat → Int → (List (List Int)) → Option (List (List Int))
  | 0, _, _ => none
  | k + 1, y19, y20 =>
    bif (decide (y19 < (y8.length : Int))) then (
      cl true (M_spec_l14Grid_L2 fu y8 x10 y19 fu (0 : Int) y20) fun s24 =>
      ck (i64B (y19 + (1 : Int))) <|
      M_spec_l14Grid_L1 fu y8 x10 k (y19 + (1 : Int)) s24
    ) else (
      some y20
    )
def M_spec_l14Grid_L0 (fu : Nat) (p0 : T_impl_RuleSet) : Nat → Int → (List (List Int)) → Option (List (List Int))
  | 0, _, _ => none
  | k + 1, y7, y8 =>
    bif (decide (y7 < (6 : Int))) then (
      cl true (M_spec_l14Levels fu p0 y7) fun x10 =>
      cl true (M_spec_l14Grid_L1 fu y8 x10 fu (0 : Int) ([] : List (List Int))) fun s18 =>
      ck (i64B (y7 + (1 : Int))) <|
      M_spec_l14Grid_L0 fu p0 k (y7 + (1 : Int)) s18
    ) else (
      some y8
    )
def M_spec_l14Grid (fu : Nat) (p0 : T_impl_RuleSet) : Option (List (List Int)) :=
  cl true (M_spec_l14Grid_L0 fu p0 fu (0 : Int) ([([] : List Int)] : List (List Int))) fun s6 =>
  some s6
set_option maxRecDepth 100000 in
set_option maxHeartbeats 4000000 in
theorem M_spec_l14Grid_ok {fu : Nat} {A0 : Av} {p0 : T_impl_RuleSet} {r : List (List Int)} (hr : M_spec_l14Grid fu p0 = some r) {w : World} {v0 : Value} (hA : AvOK A0 w) (h0 : Rep E_impl_RuleSet A0 w v0 p0) :
    Calls Try.prog 36 #[v0] w fun e w' => ∃ v, e = .returned v ∧ ((Res.vec w.heap.size 33 (eSl (eInt .i64)) r).ok (addA A0 v) v w' ∧ Fr w w') := by
  unfold M_spec_l14Grid at hr
  obtain ⟨w0, hw0⟩ : ∃ w0, w0 = w := ⟨_, rfl⟩
  have hF : Fr w0 w := hw0 ▸ Fr.refl _
  have hA0 : ∀ b o, A0 b o → b < w0.heap.size := fun b o h => hw0 ▸ hA b o h
  have hA00 : AvOK A0 w0 := hA0
  rw [show w.heap.size = w0.heap.size from hw0 ▸ rfl]
  rw [show Fr w = Fr w0 from hw0 ▸ rfl]
  clear hw0
  obtain ⟨A, hAe⟩ : ∃ A, A = A0 := ⟨_, rfl⟩
  have hAA : ∀ b o, A0 b o → A b o := fun b o h => hAe ▸ h
  replace hA : AvOK A w := hAe ▸ hA
  have hO : IniOK [] A w := IniOK.nil
  refine calls_of_HT2 [.tmp 2] Try.func36 Try.ntmps36 (by decide) rfl rfl (Nat.le_of_ble_eq_true rfl) ?_
  intro R hR
  have f_v0 : Rep E_impl_RuleSet A w v0 p0 := hAe ▸ h0
  replace h0 : R 0 = v0 := hR 0 _ rfl
  clear hR hAe
  refine HT.seq ?_
  refine HT.textR [] (⟨_, true, [], some (.box w0.heap.size 29 E_impl_RuleSet p0), true, fun A => .any⟩ :: ⟨_, true, [], none, true, fun A => .any⟩ :: []) (by kernel_rfl) (by kernel_rfl) (Wf.mk' (by kernel_rfl) (UAll.cons ust_any (UAll.cons ust_any (UAll.nil))) (by kernel_rfl) (by kernel_rfl)) hO hA ?_ ?_
  · exact
      OblsR.cons (OblR.made _ rfl rfl rfl rfl fun A' R' w' ho hd => by have a0 : R' 0 = v0 := (ho.old 0 rfl).trans h0; have ra0 := (f_v0.stp ho.stp).eq a0; exact made_box ra0 (Nat.le_trans hF.size ho.ch.size)) <|
      OblsR.cons (OblR.plain rfl rfl rfl rfl fun A' R' w' ho hd => by exact of_assign trivial) <|
      OblsR.nil
  intro done ρ σ A R w hdn hI
  obtain ⟨b1_0, e_b1_0⟩ := hI.boxv hdn 0 rfl rfl
  have h1 : R 1 = (.pointer (some ⟨b1_0, 0, none⟩)) := (hI.opvR hdn 0 0 rfl rfl rfl rfl rfl).symm.trans e_b1_0
  replace hAA := hI.low' hAA hA0 (hO.ge (trivial))
  replace hF : Fr w0 w := hF.tr hI.ch (hO.ge (trivial))
  replace hO : IniOK [ob (.pointer (some ⟨b1_0, 0, none⟩)) (.box w0.heap.size 29 E_impl_RuleSet p0)] A w := hI.left hdn [(0, ob (.pointer (some ⟨b1_0, 0, none⟩)) (.box w0.heap.size 29 E_impl_RuleSet p0))] ⟨rfl, rfl, e_b1_0, rfl, rfl, trivial⟩
  replace hA := hI.avok
  clear hI
  refine HT.seq ?_
  refine HT.textR [ob (.pointer (some ⟨b1_0, 0, none⟩)) (.box w0.heap.size 29 E_impl_RuleSet p0)] (⟨_, true, [], none, true, fun A => .rep (eSl (eInt .i64)) A ([] : List Int)⟩ :: ⟨_, true, [], some (.vec w0.heap.size 33 (eSl (eInt .i64)) ([([] : List Int)] : List (List Int))), true, fun A => .any⟩ :: ⟨_, true, [2], some (.vec w0.heap.size 33 (eSl (eInt .i64)) ([([] : List Int)] : List (List Int))), true, fun A => .any⟩ :: []) (by kernel_rfl) (by kernel_rfl) (Wf.mk' (by kernel_rfl) (UAll.cons ust_rep (UAll.cons ust_any (UAll.cons ust_any (UAll.nil)))) (by kernel_rfl) (by kernel_rfl)) hO hA ?_ ?_
  · exact
      OblsR.cons (OblR.plain rfl rfl rfl rfl fun A' R' w' ho hd => by exact of_build [] (E := eInt .i64) trivial Try.underlying33 Try.sizeOf3 Try.zeroValue3 rfl rfl rfl ho.av) <|
      OblsR.cons (OblR.made _ rfl rfl rfl rfl fun A' R' w' ho hd => by have a0 : Rep (eSl (eInt .i64)) A' w' (R' 9) ([] : List Int) := hd 0 _ _ _ rfl rfl rfl rfl rfl; exact made_build [_] (E := eSl (eInt .i64)) ⟨a0, trivial⟩ Try.underlying55 Try.sizeOf33 Try.zeroValue33 rfl rfl rfl (Nat.le_trans hF.size ho.ch.size)) <|
      OblsR.cons (OblR.took 2 _ _ rfl rfl rfl rfl rfl fun A' R' w' ho hd u hok hav hin hop hds => by exact took_assign (hop _ _ rfl rfl rfl rfl).symm hok hav) <|
      OblsR.nil
  intro done ρ σ A R w hdn hI
  replace h1 : R 1 = (.pointer (some ⟨b1_0, 0, none⟩)) := (hI.reg rfl).trans h1
  have z2 := hI.inivR 0 rfl
  obtain ⟨u3, e_u3⟩ : ∃ u, ρ 3 = u := ⟨_, rfl⟩
  have h3 : R 3 = u3 := (hI.opvR hdn 3 2 rfl rfl rfl rfl rfl).symm.trans e_u3
  replace hAA := hI.low' hAA hA0 (hO.ge (⟨rfl, trivial⟩))
  replace hF : Fr w0 w := hF.tr hI.ch (hO.ge (⟨rfl, trivial⟩))
  replace hO : IniOK [ob (.pointer (some ⟨b1_0, 0, none⟩)) (.box w0.heap.size 29 E_impl_RuleSet p0), ob u3 (.vec w0.heap.size 33 (eSl (eInt .i64)) ([([] : List Int)] : List (List Int)))] A w := hI.left hdn [(0, ob (.pointer (some ⟨b1_0, 0, none⟩)) (.box w0.heap.size 29 E_impl_RuleSet p0)), (3, ob u3 (.vec w0.heap.size 33 (eSl (eInt .i64)) ([([] : List Int)] : List (List Int))))] ⟨rfl, rfl, z2, rfl, rfl, ⟨rfl, rfl, e_u3, rfl, rfl, trivial⟩⟩
  replace hA := hI.avok
  clear hI
  refine HT.seq ?_
  refine HT.seq ?_
  refine HT.text (l := ⟨_, true, .raw (.int .i64 (0 : Int))⟩ :: []) (tl := []) (by kernel_rfl) (by kernel_rfl) (by kernel_rfl) ?_ ?_
  · exact
      Obls.cons (Obl.plain rfl rfl fun R' w' hw hs hd => by exact of_assign rfl) <|
      Obls.nil
  intro R w hw hs hF'
  replace h1 : R 1 = (.pointer (some ⟨b1_0, 0, none⟩)) := (hs 1 rfl).trans h1
  replace h3 : R 3 = u3 := (hs 3 rfl).trans h3
  have h4 : R 4 = .int .i64 (0 : Int) := hF' 0 _ _ rfl rfl rfl
  replace hO := hO.fr hw
  replace hA := hA.fr hw.size
  replace hF := hF.trans hw
  clear hs hF' hw
  refine seqR_nil ?_
  obtain ⟨rl4, q5, hr⟩ := cl_some hr
  replace q5 := q5 rfl
  refine HT.cut0 (fun R w => ∃ A : Av, ∃ (s6 : (List (List Int))) (uo_u3 : Value), rl4 = s6 ∧ AvOK A w ∧ Fr w0 w ∧ (∀ b o, A0 b o → A b o) ∧ IniOK [ob uo_u3 (.vec w0.heap.size 33 (eSl (eInt .i64)) s6)] A w ∧ R 3 = uo_u3) ?_ ?_
  · refine HT.block ?_
    refine HT.loop (fun k R w => ∃ A : Av, ∃ (y7 : Int) (y8 : List (List Int)) (ul_u3 : Value), M_spec_l14Grid_L0 fu p0 k y7 y8 = some rl4 ∧ AvOK A w ∧ Fr w0 w ∧ (∀ b o, A0 b o → A b o) ∧ IniOK [ob (.pointer (some ⟨b1_0, 0, none⟩)) (.box w0.heap.size 29 E_impl_RuleSet p0), ob ul_u3 (.vec w0.heap.size 33 (eSl (eInt .i64)) y8)] A w ∧ R 1 = (.pointer (some ⟨b1_0, 0, none⟩)) ∧ R 3 = ul_u3 ∧ R 4 = .int .i64 y7) fu ⟨_, _, _, u3, q5, hA, hF, hAA, hO, h1, h3, h4⟩ ?_
    have hr0 := hr; clear hr q5
    rintro k R w ⟨A, y7, y8, ul_u3, hr, hA, hF, hAA, hO, h1, h3, h4⟩
    rcases k with _ | k
    · cases (show none = some _ from hr)
    rw [M_spec_l14Grid_L0] at hr
    refine HT.seq ?_
    refine HT.seq ?_
    refine HT.text (l := ⟨_, true, .raw (.int .i64 y7)⟩ :: ⟨_, true, .raw (.bool (decide (y7 < (6 : Int))))⟩ :: []) (tl := []) (by kernel_rfl) (by kernel_rfl) (by kernel_rfl) ?_ ?_
    · exact
        Obls.cons (Obl.plain rfl rfl fun R' w' hw hs hd => by have a0 : R' 4 = .int .i64 y7 := (hs 4 rfl).trans h4; exact of_move a0) <|
        Obls.cons (Obl.plain rfl rfl fun R' w' hw hs hd => by have a0 : R' 11 = .int .i64 y7 := hd 0 _ _ _ rfl rfl rfl rfl rfl; exact of_lss a0 rfl) <|
        Obls.nil
    intro R w hw hs hF'
    replace h1 : R 1 = (.pointer (some ⟨b1_0, 0, none⟩)) := (hs 1 rfl).trans h1
    replace h3 : R 3 = ul_u3 := (hs 3 rfl).trans h3
    replace h4 : R 4 = .int .i64 y7 := (hs 4 rfl).trans h4
    have h12 : R 12 = .bool (decide (y7 < (6 : Int))) := hF' 1 _ _ rfl rfl rfl
    replace hO := hO.fr hw
    replace hA := hA.fr hw.size
    replace hF := hF.trans hw
    clear hs hF' hw
    refine seqR_nil ?_
    refine HT.cond (decide (y7 < (6 : Int))) h12 (fun c9 => ?_) (fun c9 => ?_)
    · have hr := cnd_t c9 hr
      refine HT.skip ?_
      refine HT.seq ?_
      refine HT.block ?_
      refine HT.seq ?_
      obtain ⟨x10, q11, hr⟩ := cl_some hr
      refine HT.text (l := ⟨_, true, .rep E_impl_RuleSet A p0⟩ :: ⟨_, true, .raw (.int .i64 y7)⟩ :: ⟨_, true, .rep (eSl (eInt .i64)) A x10⟩ :: ⟨_, true, .rep (eSl (eInt .i64)) A x10⟩ :: []) (tl := []) (by kernel_rfl) (by kernel_rfl) (by kernel_rfl) ?_ ?_
      · exact
          Obls.cons (Obl.plain rfl rfl fun R' w' hw hs hd => by have a0 : R' 1 = (.pointer (some ⟨b1_0, 0, none⟩)) := (hs 1 rfl).trans h1; exact (of_load_box ((hO.fr hw).ok 0 _ rfl).1 a0 (Fld.id _) rfl Try.isAgg29 Try.sizeOf29)) <|
          Obls.cons (Obl.plain rfl rfl fun R' w' hw hs hd => by have a0 : R' 4 = .int .i64 y7 := (hs 4 rfl).trans h4; exact of_move a0) <|
          Obls.cons (Obl.plain rfl rfl fun R' w' hw hs hd => by have a0 : Rep E_impl_RuleSet A w' (R' 15) p0 := hd 0 _ _ _ rfl rfl rfl rfl rfl; have a1 : R' 16 = .int .i64 y7 := hd 1 _ _ _ rfl rfl rfl rfl rfl; exact of_call Try.call37 (M_spec_l14Levels_okR (q11 rfl) (hA.fr hw.size) a0 a1)) <|
          Obls.cons (Obl.plain rfl rfl fun R' w' hw hs hd => by have a0 : Rep (eSl (eInt .i64)) A w' (R' 17) x10 := hd 0 _ _ _ rfl rfl rfl rfl rfl; exact of_assign a0) <|
          Obls.nil
      intro R w hw hs hF'
      replace h1 : R 1 = (.pointer (some ⟨b1_0, 0, none⟩)) := (hs 1 rfl).trans h1
      replace h3 : R 3 = ul_u3 := (hs 3 rfl).trans h3
      replace h4 : R 4 = .int .i64 y7 := (hs 4 rfl).trans h4
      obtain ⟨u12, h5, f_u12⟩ : ∃ u, R 5 = u ∧ Rep (eSl (eInt .i64)) A w u x10 := ⟨_, rfl, hF' 3 _ _ rfl rfl rfl⟩
      replace hO := hO.fr hw
      replace hA := hA.fr hw.size
      replace hF := hF.trans hw
      clear hs hF' hw
      refine seqR_nil ?_
      refine HT.seq ?_
      refine HT.textR [ob (.pointer (some ⟨b1_0, 0, none⟩)) (.box w0.heap.size 29 E_impl_RuleSet p0), ob ul_u3 (.vec w0.heap.size 33 (eSl (eInt .i64)) y8)] (⟨_, true, [], some (.vec w0.heap.size 33 (eSl (eInt .i64)) ([] : List (List Int))), true, fun A => .any⟩ :: ⟨_, true, [2], some (.vec w0.heap.size 33 (eSl (eInt .i64)) ([] : List (List Int))), true, fun A => .any⟩ :: []) (by kernel_rfl) (by kernel_rfl) (Wf.mk' (by kernel_rfl) (UAll.cons ust_any (UAll.cons ust_any (UAll.nil))) (by kernel_rfl) (by kernel_rfl)) hO hA ?_ ?_
      · exact
          OblsR.cons (OblR.made _ rfl rfl rfl rfl fun A' R' w' ho hd => by exact made_build [] (E := eSl (eInt .i64)) trivial Try.underlying55 Try.sizeOf33 Try.zeroValue33 rfl rfl rfl (Nat.le_trans hF.size ho.ch.size)) <|
          OblsR.cons (OblR.took 2 _ _ rfl rfl rfl rfl rfl fun A' R' w' ho hd u hok hav hin hop hds => by exact took_assign (hop _ _ rfl rfl rfl rfl).symm hok hav) <|
          OblsR.nil
      intro done ρ σ A R w hdn hI
      replace h1 : R 1 = (.pointer (some ⟨b1_0, 0, none⟩)) := (hI.reg rfl).trans h1
      replace h3 : R 3 = ul_u3 := (hI.reg rfl).trans h3
      replace h4 : R 4 = .int .i64 y7 := (hI.reg rfl).trans h4
      replace h5 : R 5 = u12 := (hI.reg rfl).trans h5
      have z13 := hI.inivR 0 rfl
      have z14 := hI.inivR 1 rfl
      obtain ⟨u15, e_u15⟩ : ∃ u, ρ 3 = u := ⟨_, rfl⟩
      have h6 : R 6 = u15 := (hI.opvR hdn 3 1 rfl rfl rfl rfl rfl).symm.trans e_u15
      replace f_u12 := f_u12.stp hI.stp
      replace hAA := hI.low' hAA hA0 (hO.ge (⟨rfl, ⟨rfl, trivial⟩⟩))
      replace hF : Fr w0 w := hF.tr hI.ch (hO.ge (⟨rfl, ⟨rfl, trivial⟩⟩))
      replace hO : IniOK [ob (.pointer (some ⟨b1_0, 0, none⟩)) (.box w0.heap.size 29 E_impl_RuleSet p0), ob ul_u3 (.vec w0.heap.size 33 (eSl (eInt .i64)) y8), ob u15 (.vec w0.heap.size 33 (eSl (eInt .i64)) ([] : List (List Int)))] A w := hI.left hdn [(0, ob (.pointer (some ⟨b1_0, 0, none⟩)) (.box w0.heap.size 29 E_impl_RuleSet p0)), (1, ob ul_u3 (.vec w0.heap.size 33 (eSl (eInt .i64)) y8)), (3, ob u15 (.vec w0.heap.size 33 (eSl (eInt .i64)) ([] : List (List Int))))] ⟨rfl, rfl, z13, rfl, rfl, ⟨rfl, rfl, z14, rfl, rfl, ⟨rfl, rfl, e_u15, rfl, rfl, trivial⟩⟩⟩
      replace hA := hI.avok
      clear hI
      refine HT.seq ?_
      refine HT.seq ?_
      refine HT.text (l := ⟨_, true, .raw (.int .i64 (0 : Int))⟩ :: []) (tl := []) (by kernel_rfl) (by kernel_rfl) (by kernel_rfl) ?_ ?_
      · exact
          Obls.cons (Obl.plain rfl rfl fun R' w' hw hs hd => by exact of_assign rfl) <|
          Obls.nil
      intro R w hw hs hF'
      replace h1 : R 1 = (.pointer (some ⟨b1_0, 0, none⟩)) := (hs 1 rfl).trans h1
      replace h3 : R 3 = ul_u3 := (hs 3 rfl).trans h3
      replace h4 : R 4 = .int .i64 y7 := (hs 4 rfl).trans h4
      replace h5 : R 5 = u12 := (hs 5 rfl).trans h5
      replace h6 : R 6 = u15 := (hs 6 rfl).trans h6
      have h7 : R 7 = .int .i64 (0 : Int) := hF' 0 _ _ rfl rfl rfl
      replace f_u12 := f_u12.fr hw
      replace hO := hO.fr hw
      replace hA := hA.fr hw.size
      replace hF := hF.trans hw
      clear hs hF' hw
      refine seqR_nil ?_
      obtain ⟨rl16, q17, hr⟩ := cl_some hr
      replace q17 := q17 rfl
      refine HT.cut0 (fun R w => ∃ A : Av, ∃ (s18 : (List (List Int))) (uo_u15 : Value), rl16 = s18 ∧ AvOK A w ∧ Fr w0 w ∧ (∀ b o, A0 b o → A b o) ∧ IniOK [ob (.pointer (some ⟨b1_0, 0, none⟩)) (.box w0.heap.size 29 E_impl_RuleSet p0), ob uo_u15 (.vec w0.heap.size 33 (eSl (eInt .i64)) s18)] A w ∧ R 1 = (.pointer (some ⟨b1_0, 0, none⟩)) ∧ R 4 = .int .i64 y7 ∧ R 6 = uo_u15) ?_ ?_
      · refine HT.block ?_
        refine HT.loop (fun k R w => ∃ A : Av, ∃ (y19 : Int) (y20 : List (List Int)) (ul_u15 : Value), M_spec_l14Grid_L1 fu y8 x10 k y19 y20 = some rl16 ∧ AvOK A w ∧ Fr w0 w ∧ (∀ b o, A0 b o → A b o) ∧ IniOK [ob (.pointer (some ⟨b1_0, 0, none⟩)) (.box w0.heap.size 29 E_impl_RuleSet p0), ob ul_u3 (.vec w0.heap.size 33 (eSl (eInt .i64)) y8), ob ul_u15 (.vec w0.heap.size 33 (eSl (eInt .i64)) y20)] A w ∧ R 1 = (.pointer (some ⟨b1_0, 0, none⟩)) ∧ R 3 = ul_u3 ∧ R 4 = .int .i64 y7 ∧ R 5 = u12 ∧ R 6 = ul_u15 ∧ R 7 = .int .i64 y19 ∧ Rep (eSl (eInt .i64)) A w u12 x10) fu ⟨_, _, _, u15, q17, hA, hF, hAA, hO, h1, h3, h4, h5, h6, h7, f_u12⟩ ?_
        have hr0 := hr; clear hr q17
        rintro k R w ⟨A, y19, y20, ul_u15, hr, hA, hF, hAA, hO, h1, h3, h4, h5, h6, h7, f_u12⟩
        rcases k with _ | k
        · cases (show none = some _ from hr)
        rw [M_spec_l14Grid_L1] at hr
        refine HT.seq ?_
        refine HT.seq ?_
        refine HT.text (l := ⟨_, true, .raw (.int .i64 y19)⟩ :: ⟨_, true, .raw ul_u3⟩ :: ⟨_, true, .raw (.int .i64 (y8.length : Int))⟩ :: ⟨_, true, .raw (.bool (decide (y19 < (y8.length : Int))))⟩ :: []) (tl := []) (by kernel_rfl) (by kernel_rfl) (by kernel_rfl) ?_ ?_
        · exact
            Obls.cons (Obl.plain rfl rfl fun R' w' hw hs hd => by have a0 : R' 7 = .int .i64 y19 := (hs 7 rfl).trans h7; exact of_move a0) <|
            Obls.cons (Obl.plain rfl rfl fun R' w' hw hs hd => by have a0 : R' 3 = ul_u3 := (hs 3 rfl).trans h3; exact of_move a0) <|
            Obls.cons (Obl.plain rfl rfl fun R' w' hw hs hd => by have a0 : R' 20 = ul_u3 := hd 0 _ _ _ rfl rfl rfl rfl rfl; exact of_len_vec (hO.ok 1 _ rfl).1 a0 Try.underlying55) <|
            Obls.cons (Obl.plain rfl rfl fun R' w' hw hs hd => by have a0 : R' 19 = .int .i64 y19 := hd 0 _ _ _ rfl rfl rfl rfl rfl; have a1 : R' 21 = .int .i64 (y8.length : Int) := hd 1 _ _ _ rfl rfl rfl rfl rfl; exact of_lss a0 a1) <|
            Obls.nil
        intro R w hw hs hF'
        replace h1 : R 1 = (.pointer (some ⟨b1_0, 0, none⟩)) := (hs 1 rfl).trans h1
        replace h3 : R 3 = ul_u3 := (hs 3 rfl).trans h3
        replace h4 : R 4 = .int .i64 y7 := (hs 4 rfl).trans h4
        replace h5 : R 5 = u12 := (hs 5 rfl).trans h5
        replace h6 : R 6 = ul_u15 := (hs 6 rfl).trans h6
        replace h7 : R 7 = .int .i64 y19 := (hs 7 rfl).trans h7
        have h22 : R 22 = .bool (decide (y19 < (y8.length : Int))) := hF' 3 _ _ rfl rfl rfl
        replace f_u12 := f_u12.fr hw
        replace hO := hO.fr hw
        replace hA := hA.fr hw.size
        replace hF := hF.trans hw
        clear hs hF' hw
        refine seqR_nil ?_
        refine HT.cond (decide (y19 < (y8.length : Int))) h22 (fun c21 => ?_) (fun c21 => ?_)
        · have hr := cnd_t c21 hr
          refine HT.skip ?_
          refine HT.seq ?_
          refine HT.block ?_
          refine HT.seq ?_
          refine HT.text (l := ⟨_, true, .raw (.int .i64 (0 : Int))⟩ :: []) (tl := []) (by kernel_rfl) (by kernel_rfl) (by kernel_rfl) ?_ ?_
          · exact
              Obls.cons (Obl.plain rfl rfl fun R' w' hw hs hd => by exact of_assign rfl) <|
              Obls.nil
          intro R w hw hs hF'
          replace h1 : R 1 = (.pointer (some ⟨b1_0, 0, none⟩)) := (hs 1 rfl).trans h1
          replace h3 : R 3 = ul_u3 := (hs 3 rfl).trans h3
          replace h4 : R 4 = .int .i64 y7 := (hs 4 rfl).trans h4
          replace h5 : R 5 = u12 := (hs 5 rfl).trans h5
          replace h6 : R 6 = ul_u15 := (hs 6 rfl).trans h6
          replace h7 : R 7 = .int .i64 y19 := (hs 7 rfl).trans h7
          have h8 : R 8 = .int .i64 (0 : Int) := hF' 0 _ _ rfl rfl rfl
          replace f_u12 := f_u12.fr hw
          replace hO := hO.fr hw
          replace hA := hA.fr hw.size
          replace hF := hF.trans hw
          clear hs hF' hw
          refine seqR_nil ?_
          obtain ⟨rl22, q23, hr⟩ := cl_some hr
          replace q23 := q23 rfl
          refine HT.cut0 (fun R w => ∃ A : Av, ∃ (s24 : (List (List Int))) (uo_ul_u15 : Value), rl22 = s24 ∧ AvOK A w ∧ Fr w0 w ∧ (∀ b o, A0 b o → A b o) ∧ IniOK [ob (.pointer (some ⟨b1_0, 0, none⟩)) (.box w0.heap.size 29 E_impl_RuleSet p0), ob ul_u3 (.vec w0.heap.size 33 (eSl (eInt .i64)) y8), ob uo_ul_u15 (.vec w0.heap.size 33 (eSl (eInt .i64)) s24)] A w ∧ R 1 = (.pointer (some ⟨b1_0, 0, none⟩)) ∧ R 3 = ul_u3 ∧ R 4 = .int .i64 y7 ∧ R 5 = u12 ∧ R 6 = uo_ul_u15 ∧ R 7 = .int .i64 y19 ∧ Rep (eSl (eInt .i64)) A w u12 x10) ?_ ?_
          · refine HT.block ?_
            refine HT.loop (fun k R w => ∃ A : Av, ∃ (y25 : Int) (y26 : List (List Int)) (ul_ul_u15 : Value), M_spec_l14Grid_L2 fu y8 x10 y19 k y25 y26 = some rl22 ∧ AvOK A w ∧ Fr w0 w ∧ (∀ b o, A0 b o → A b o) ∧ IniOK [ob (.pointer (some ⟨b1_0, 0, none⟩)) (.box w0.heap.size 29 E_impl_RuleSet p0), ob ul_u3 (.vec w0.heap.size 33 (eSl (eInt .i64)) y8), ob ul_ul_u15 (.vec w0.heap.size 33 (eSl (eInt .i64)) y26)] A w ∧ R 1 = (.pointer (some ⟨b1_0, 0, none⟩)) ∧ R 3 = ul_u3 ∧ R 4 = .int .i64 y7 ∧ R 5 = u12 ∧ R 6 = ul_ul_u15 ∧ R 7 = .int .i64 y19 ∧ R 8 = .int .i64 y25 ∧ Rep (eSl (eInt .i64)) A w u12 x10) fu ⟨_, _, _, ul_u15, q23, hA, hF, hAA, hO, h1, h3, h4, h5, h6, h7, h8, f_u12⟩ ?_
            have hr0 := hr; clear hr q23
            rintro k R w ⟨A, y25, y26, ul_ul_u15, hr, hA, hF, hAA, hO, h1, h3, h4, h5, h6, h7, h8, f_u12⟩
            rcases k with _ | k
            · cases (show none = some _ from hr)
            rw [M_spec_l14Grid_L2] at hr
            refine HT.seq ?_
            refine HT.seq ?_
            refine HT.text (l := ⟨_, true, .raw (.int .i64 y25)⟩ :: ⟨_, true, .raw u12⟩ :: ⟨_, true, .raw (.int .i64 (x10.length : Int))⟩ :: ⟨_, true, .raw (.bool (decide (y25 < (x10.length : Int))))⟩ :: []) (tl := []) (by kernel_rfl) (by kernel_rfl) (by kernel_rfl) ?_ ?_
            · exact
                Obls.cons (Obl.plain rfl rfl fun R' w' hw hs hd => by have a0 : R' 8 = .int .i64 y25 := (hs 8 rfl).trans h8; exact of_move a0) <|
                Obls.cons (Obl.plain rfl rfl fun R' w' hw hs hd => by have a0 : R' 5 = u12 := (hs 5 rfl).trans h5; exact of_move a0) <|
                Obls.cons (Obl.plain rfl rfl fun R' w' hw hs hd => by have a0 : R' 26 = u12 := hd 0 _ _ _ rfl rfl rfl rfl rfl; have ra0 := (f_u12.fr hw).eq a0; exact of_len_sl (aT := #[]) ra0 Try.underlying33) <|
                Obls.cons (Obl.plain rfl rfl fun R' w' hw hs hd => by have a0 : R' 25 = .int .i64 y25 := hd 0 _ _ _ rfl rfl rfl rfl rfl; have a1 : R' 27 = .int .i64 (x10.length : Int) := hd 1 _ _ _ rfl rfl rfl rfl rfl; exact of_lss a0 a1) <|
                Obls.nil
            intro R w hw hs hF'
            replace h1 : R 1 = (.pointer (some ⟨b1_0, 0, none⟩)) := (hs 1 rfl).trans h1
            replace h3 : R 3 = ul_u3 := (hs 3 rfl).trans h3
            replace h4 : R 4 = .int .i64 y7 := (hs 4 rfl).trans h4
            replace h5 : R 5 = u12 := (hs 5 rfl).trans h5
            replace h6 : R 6 = ul_ul_u15 := (hs 6 rfl).trans h6
            replace h7 : R 7 = .int .i64 y19 := (hs 7 rfl).trans h7
            replace h8 : R 8 = .int .i64 y25 := (hs 8 rfl).trans h8
            have h28 : R 28 = .bool (decide (y25 < (x10.length : Int))) := hF' 3 _ _ rfl rfl rfl
            replace f_u12 := f_u12.fr hw
            replace hO := hO.fr hw
            replace hA := hA.fr hw.size
            replace hF := hF.trans hw
            clear hs hF' hw
            refine seqR_nil ?_
            refine HT.cond (decide (y25 < (x10.length : Int))) h28 (fun c27 => ?_) (fun c27 => ?_)
            · have hr := cnd_t c27 hr
              refine HT.skip ?_
              refine HT.seq ?_
              refine HT.block ?_
              obtain ⟨e28, hr⟩ := ck_some hr
              obtain ⟨e29, hr⟩ := ck_some hr
              obtain ⟨e30, hr⟩ := ck_some hr
              obtain ⟨e31, hr⟩ := ck_some hr
              obtain ⟨e32, hr⟩ := ck_some hr
              refine HT.drawR [ob (.pointer (some ⟨b1_0, 0, none⟩)) (.box w0.heap.size 29 E_impl_RuleSet p0), ob ul_u3 (.vec w0.heap.size 33 (eSl (eInt .i64)) y8), ob ul_ul_u15 (.vec w0.heap.size 33 (eSl (eInt .i64)) y26)] (⟨_, true, [], none, true, fun A => .raw ul_ul_u15⟩ :: ⟨_, true, [], some (.vec w0.heap.size 3 (eInt .i64) ([] : List Int)), true, fun A => .any⟩ :: ⟨_, true, [], none, true, fun A => .raw ul_u3⟩ :: ⟨_, true, [], none, true, fun A => .raw (.int .i64 y19)⟩ :: ⟨_, true, [], none, true, fun A => .raw (vptr ul_u3 (y19.toNat * 1))⟩ :: ⟨_, true, [], none, true, fun A => .rep (eSl (eInt .i64)) A (gtD y8 y19)⟩ :: ⟨_, true, [4], some (.vec w0.heap.size 3 (eInt .i64) (([] : List Int) ++ (gtD y8 y19))), true, fun A => .any⟩ :: ⟨_, true, [], none, true, fun A => .raw u12⟩ :: ⟨_, true, [], none, true, fun A => .raw (.int .i64 y25)⟩ :: ⟨_, true, [], none, true, fun A => .qtr (eInt .i64) A (gtD x10 y25)⟩ :: ⟨_, true, [], none, true, fun A => .raw (.int .i64 (gtD x10 y25))⟩ :: ⟨_, true, [], none, true, fun A => .rep (eSl (eInt .i64)) A ([(gtD x10 y25)] : List Int)⟩ :: ⟨_, true, [9], some (.nul), false, fun A => .rep (eSl (eInt .i64)) A ((([] : List Int) ++ (gtD y8 y19)) ++ ([(gtD x10 y25)] : List Int))⟩ :: ⟨_, true, [], none, true, fun A => .rep (eSl (eSl (eInt .i64))) A ([((([] : List Int) ++ (gtD y8 y19)) ++ ([(gtD x10 y25)] : List Int))] : List (List Int))⟩ :: ⟨_, true, [2], some (.vec w0.heap.size 33 (eSl (eInt .i64)) (y26 ++ ([((([] : List Int) ++ (gtD y8 y19)) ++ ([(gtD x10 y25)] : List Int))] : List (List Int)))), true, fun A => .any⟩ :: ⟨_, true, [17], some (.vec w0.heap.size 33 (eSl (eInt .i64)) (y26 ++ ([((([] : List Int) ++ (gtD y8 y19)) ++ ([(gtD x10 y25)] : List Int))] : List (List Int)))), true, fun A => .any⟩ :: []) (by kernel_rfl) (by kernel_rfl) (by kernel_rfl) (Wf.mk' (by kernel_rfl) (UAll.cons ust_raw (UAll.cons ust_any (UAll.cons ust_raw (UAll.cons ust_raw (UAll.cons ust_raw (UAll.cons ust_rep (UAll.cons ust_any (UAll.cons ust_raw (UAll.cons ust_raw (UAll.cons ust_qtr (UAll.cons ust_raw (UAll.cons ust_rep (UAll.cons ust_rep (UAll.cons ust_rep (UAll.cons ust_any (UAll.cons ust_any (UAll.nil))))))))))))))))) (by kernel_rfl) (by kernel_rfl)) hO hA ?_ ?_
              · exact
                  OblsR.cons (OblR.plain rfl rfl rfl rfl fun A' R' w' ho hd => by have a0 : R' 6 = ul_ul_u15 := (ho.old 6 rfl).trans h6; exact of_move a0) <|
                  OblsR.cons (OblR.made _ rfl rfl rfl rfl fun A' R' w' ho hd => by exact made_build [] (E := eInt .i64) trivial Try.underlying33 Try.sizeOf3 Try.zeroValue3 rfl rfl rfl (Nat.le_trans hF.size ho.ch.size)) <|
                  OblsR.cons (OblR.plain rfl rfl rfl rfl fun A' R' w' ho hd => by have a0 : R' 3 = ul_u3 := (ho.old 3 rfl).trans h3; exact of_move a0) <|
                  OblsR.cons (OblR.plain rfl rfl rfl rfl fun A' R' w' ho hd => by have a0 : R' 7 = .int .i64 y19 := (ho.old 7 rfl).trans h7; exact of_move a0) <|
                  OblsR.cons (OblR.plain rfl rfl rfl rfl fun A' R' w' ho hd => by have a0 : R' 33 = ul_u3 := hd 0 _ _ _ rfl rfl rfl rfl rfl; have a1 : R' 34 = .int .i64 y19 := hd 1 _ _ _ rfl rfl rfl rfl rfl; exact of_indexAddr_vec (hO.ok 1 _ rfl).1 a0 a1 Try.underlying55 Try.sizeOf33 e28 rfl) <|
                  OblsR.cons (OblR.plain rfl rfl rfl rfl fun A' R' w' ho hd => by have a0 : R' 35 = (vptr ul_u3 (y19.toNat * 1)) := hd 0 _ _ _ rfl rfl rfl rfl rfl; exact (of_load_vec (ho.rd 1 _ rfl rfl) a0 e28 rfl (Fld.id _) rfl Try.isAgg33 Try.sizeOf33)) <|
                  OblsR.cons (OblR.took 4 _ _ rfl rfl rfl rfl rfl fun A' R' w' ho hd u hok hav hin hop hds => by have a1 : Rep (eSl (eInt .i64)) A' w' (R' 36) (gtD y8 y19) := hd 1 _ _ _ rfl rfl rfl rfl rfl; exact took_append (hop _ _ rfl rfl rfl rfl).symm hok hav (Nat.le_trans hF.size ho.ch.size) a1 Try.underlying33 el_3 e29) <|
                  OblsR.cons (OblR.plain rfl rfl rfl rfl fun A' R' w' ho hd => by have a0 : R' 5 = u12 := (ho.old 5 rfl).trans h5; exact of_move a0) <|
                  OblsR.cons (OblR.plain rfl rfl rfl rfl fun A' R' w' ho hd => by have a0 : R' 8 = .int .i64 y25 := (ho.old 8 rfl).trans h8; exact of_move a0) <|
                  OblsR.cons (OblR.plain rfl rfl rfl rfl fun A' R' w' ho hd => by have a0 : R' 38 = u12 := hd 0 _ _ _ rfl rfl rfl rfl rfl; have a1 : R' 39 = .int .i64 y25 := hd 1 _ _ _ rfl rfl rfl rfl rfl; have ra0 := (f_u12.stp ho.stp).eq a0; exact of_indexAddr ra0 a1 Try.underlying33 Try.sizeOf3 e30) <|
                  OblsR.cons (OblR.plain rfl rfl rfl rfl fun A' R' w' ho hd => by have a0 : QRep (eInt .i64) A' w' (R' 40) (gtD x10 y25) := hd 0 _ _ _ rfl rfl rfl rfl rfl; exact OpF.int (of_load a0.ptr Try.isAgg3 Try.sizeOf3)) <|
                  OblsR.cons (OblR.plain rfl rfl rfl rfl fun A' R' w' ho hd => by have a0 : R' 41 = .int .i64 (gtD x10 y25) := hd 0 _ _ _ rfl rfl rfl rfl rfl; exact of_build [_] (E := eInt .i64) ⟨(rep_int.eq a0), trivial⟩ Try.underlying33 Try.sizeOf3 Try.zeroValue3 rfl rfl rfl ho.av) <|
                  OblsR.cons (OblR.frz 9 _ rfl rfl rfl rfl rfl fun A' R' w' ho hd u hok hav hin hop hds => by have a1 : Rep (eSl (eInt .i64)) A' w' (R' 42) ([(gtD x10 y25)] : List Int) := hd 1 _ _ _ rfl rfl rfl rfl rfl; exact OpR.thaw (took_append (hop _ _ rfl rfl rfl rfl).symm hok hav (Nat.le_trans hF.size ho.ch.size) a1 Try.underlying33 el_3 e31) ho.av hav) <|
                  OblsR.cons (OblR.plain rfl rfl rfl rfl fun A' R' w' ho hd => by have a0 : Rep (eSl (eInt .i64)) A' w' (R' 43) ((([] : List Int) ++ (gtD y8 y19)) ++ ([(gtD x10 y25)] : List Int)) := hd 0 _ _ _ rfl rfl rfl rfl rfl; exact of_build [_] (E := eSl (eInt .i64)) ⟨a0, trivial⟩ Try.underlying55 Try.sizeOf33 Try.zeroValue33 rfl rfl rfl ho.av) <|
                  OblsR.cons (OblR.took 2 _ _ rfl rfl rfl rfl rfl fun A' R' w' ho hd u hok hav hin hop hds => by have a0 : R' 31 = ul_ul_u15 := hd 0 _ _ _ rfl rfl rfl rfl rfl; have a1 : Rep (eSl (eSl (eInt .i64))) A' w' (R' 44) ([((([] : List Int) ++ (gtD y8 y19)) ++ ([(gtD x10 y25)] : List Int))] : List (List Int)) := hd 1 _ _ _ rfl rfl rfl rfl rfl; exact took_append (a0.trans (hin _ rfl).symm) hok hav (Nat.le_trans hF.size ho.ch.size) a1 Try.underlying55 el_33 e32) <|
                  OblsR.cons (OblR.took 17 _ _ rfl rfl rfl rfl rfl fun A' R' w' ho hd u hok hav hin hop hds => by exact took_assign (hop _ _ rfl rfl rfl rfl).symm hok hav) <|
                  OblsR.nil
              intro done ρ σ A R w hdn hI
              replace h1 : R 1 = (.pointer (some ⟨b1_0, 0, none⟩)) := (hI.reg rfl).trans h1
              replace h3 : R 3 = ul_u3 := (hI.reg rfl).trans h3
              replace h4 : R 4 = .int .i64 y7 := (hI.reg rfl).trans h4
              replace h5 : R 5 = u12 := (hI.reg rfl).trans h5
              replace h7 : R 7 = .int .i64 y19 := (hI.reg rfl).trans h7
              replace h8 : R 8 = .int .i64 y25 := (hI.reg rfl).trans h8
              have z33 := hI.inivR 0 rfl
              have z34 := hI.inivR 1 rfl
              obtain ⟨u35, e_u35⟩ : ∃ u, ρ 18 = u := ⟨_, rfl⟩
              have h6 : R 6 = u35 := (hI.opvR hdn 18 15 rfl rfl rfl rfl rfl).symm.trans e_u35
              replace f_u12 := f_u12.stp hI.stp
              replace hAA := hI.low' hAA hA0 (hO.ge (⟨rfl, ⟨rfl, ⟨rfl, trivial⟩⟩⟩))
              replace hF : Fr w0 w := hF.tr hI.ch (hO.ge (⟨rfl, ⟨rfl, ⟨rfl, trivial⟩⟩⟩))
              replace hO : IniOK [ob (.pointer (some ⟨b1_0, 0, none⟩)) (.box w0.heap.size 29 E_impl_RuleSet p0), ob ul_u3 (.vec w0.heap.size 33 (eSl (eInt .i64)) y8), ob u35 (.vec w0.heap.size 33 (eSl (eInt .i64)) (y26 ++ ([((([] : List Int) ++ (gtD y8 y19)) ++ ([(gtD x10 y25)] : List Int))] : List (List Int))))] A w := hI.left hdn [(0, ob (.pointer (some ⟨b1_0, 0, none⟩)) (.box w0.heap.size 29 E_impl_RuleSet p0)), (1, ob ul_u3 (.vec w0.heap.size 33 (eSl (eInt .i64)) y8)), (18, ob u35 (.vec w0.heap.size 33 (eSl (eInt .i64)) (y26 ++ ([((([] : List Int) ++ (gtD y8 y19)) ++ ([(gtD x10 y25)] : List Int))] : List (List Int)))))] ⟨rfl, rfl, z33, rfl, rfl, ⟨rfl, rfl, z34, rfl, rfl, ⟨rfl, rfl, e_u35, rfl, rfl, trivial⟩⟩⟩
              replace hA := hI.avok
              clear hI
              obtain ⟨e36, hr⟩ := ck_some hr
              refine HT.text (l := ⟨_, true, .raw (.int .i64 y25)⟩ :: ⟨_, true, .raw (.int .i64 (y25 + (1 : Int)))⟩ :: ⟨_, true, .raw (.int .i64 (y25 + (1 : Int)))⟩ :: []) (tl := []) (by kernel_rfl) (by kernel_rfl) (by kernel_rfl) ?_ ?_
              · exact
                  Obls.cons (Obl.plain rfl rfl fun R' w' hw hs hd => by have a0 : R' 8 = .int .i64 y25 := (hs 8 rfl).trans h8; exact of_move a0) <|
                  Obls.cons (Obl.plain rfl rfl fun R' w' hw hs hd => by have a0 : R' 29 = .int .i64 y25 := hd 0 _ _ _ rfl rfl rfl rfl rfl; exact of_add a0 rfl e36) <|
                  Obls.cons (Obl.plain rfl rfl fun R' w' hw hs hd => by have a0 : R' 30 = .int .i64 (y25 + (1 : Int)) := hd 0 _ _ _ rfl rfl rfl rfl rfl; exact of_assign a0) <|
                  Obls.nil
              intro R w hw hs hF'
              replace h1 : R 1 = (.pointer (some ⟨b1_0, 0, none⟩)) := (hs 1 rfl).trans h1
              replace h3 : R 3 = ul_u3 := (hs 3 rfl).trans h3
              replace h4 : R 4 = .int .i64 y7 := (hs 4 rfl).trans h4
              replace h5 : R 5 = u12 := (hs 5 rfl).trans h5
              replace h6 : R 6 = u35 := (hs 6 rfl).trans h6
              replace h7 : R 7 = .int .i64 y19 := (hs 7 rfl).trans h7
              have h8 : R 8 = .int .i64 (y25 + (1 : Int)) := hF' 2 _ _ rfl rfl rfl
              replace f_u12 := f_u12.fr hw
              replace hO := hO.fr hw
              replace hA := hA.fr hw.size
              replace hF := hF.trans hw
              clear hs hF' hw
              refine seqR_nil ?_
              exact Exists.intro k (And.intro (Nat.lt_succ_self k) ⟨_, _, _, u35, hr, hA, hF, hAA, hO, h1, h3, h4, h5, h6, h7, h8, f_u12⟩)
            · have hr := cnd_f c27 hr
              refine HT.exit ?_
              obtain rfl := Option.some.inj hr
              exact Exists.intro _ ⟨_, ul_ul_u15, rfl, hA, hF, hAA, hO, h1, h3, h4, h5, h6, h7, f_u12⟩
          rintro R w ⟨A, s24, uo_ul_u15, es, hA, hF, hAA, hO, h1, h3, h4, h5, h6, h7, f_u12⟩
          obtain rfl := es.symm
          obtain ⟨e37, hr⟩ := ck_some hr
          refine HT.text (l := ⟨_, true, .raw (.int .i64 y19)⟩ :: ⟨_, true, .raw (.int .i64 (y19 + (1 : Int)))⟩ :: ⟨_, true, .raw (.int .i64 (y19 + (1 : Int)))⟩ :: []) (tl := []) (by kernel_rfl) (by kernel_rfl) (by kernel_rfl) ?_ ?_
          · exact
              Obls.cons (Obl.plain rfl rfl fun R' w' hw hs hd => by have a0 : R' 7 = .int .i64 y19 := (hs 7 rfl).trans h7; exact of_move a0) <|
              Obls.cons (Obl.plain rfl rfl fun R' w' hw hs hd => by have a0 : R' 23 = .int .i64 y19 := hd 0 _ _ _ rfl rfl rfl rfl rfl; exact of_add a0 rfl e37) <|
              Obls.cons (Obl.plain rfl rfl fun R' w' hw hs hd => by have a0 : R' 24 = .int .i64 (y19 + (1 : Int)) := hd 0 _ _ _ rfl rfl rfl rfl rfl; exact of_assign a0) <|
              Obls.nil
          intro R w hw hs hF'
          replace h1 : R 1 = (.pointer (some ⟨b1_0, 0, none⟩)) := (hs 1 rfl).trans h1
          replace h3 : R 3 = ul_u3 := (hs 3 rfl).trans h3
          replace h4 : R 4 = .int .i64 y7 := (hs 4 rfl).trans h4
          replace h5 : R 5 = u12 := (hs 5 rfl).trans h5
          replace h6 : R 6 = uo_ul_u15 := (hs 6 rfl).trans h6
          have h7 : R 7 = .int .i64 (y19 + (1 : Int)) := hF' 2 _ _ rfl rfl rfl
          replace f_u12 := f_u12.fr hw
          replace hO := hO.fr hw
          replace hA := hA.fr hw.size
          replace hF := hF.trans hw
          clear hs hF' hw
          refine seqR_nil ?_
          exact Exists.intro k (And.intro (Nat.lt_succ_self k) ⟨_, _, _, uo_ul_u15, hr, hA, hF, hAA, hO, h1, h3, h4, h5, h6, h7, f_u12⟩)
        · have hr := cnd_f c21 hr
          refine HT.exit ?_
          obtain rfl := Option.some.inj hr
          replace hO : IniOK [ob (.pointer (some ⟨b1_0, 0, none⟩)) (.box w0.heap.size 29 E_impl_RuleSet p0), ob ul_u15 (.vec w0.heap.size 33 (eSl (eInt .i64)) y20)] A w := hO.sub [(0, ob (.pointer (some ⟨b1_0, 0, none⟩)) (.box w0.heap.size 29 E_impl_RuleSet p0)), (2, ob ul_u15 (.vec w0.heap.size 33 (eSl (eInt .i64)) y20))] ⟨rfl, rfl, ⟨rfl, rfl, trivial⟩⟩
          exact Exists.intro _ ⟨_, ul_u15, rfl, hA, hF, hAA, hO, h1, h4, h6⟩
      rintro R w ⟨A, s18, uo_u15, es, hA, hF, hAA, hO, h1, h4, h6⟩
      obtain rfl := es.symm
      refine HT.text (l := ⟨_, true, .raw uo_u15⟩ :: ⟨_, true, .raw uo_u15⟩ :: []) (tl := []) (by kernel_rfl) (by kernel_rfl) (by kernel_rfl) ?_ ?_
      · exact
          Obls.cons (Obl.plain rfl rfl fun R' w' hw hs hd => by have a0 : R' 6 = uo_u15 := (hs 6 rfl).trans h6; exact of_move a0) <|
          Obls.cons (Obl.plain rfl rfl fun R' w' hw hs hd => by have a0 : R' 46 = uo_u15 := hd 0 _ _ _ rfl rfl rfl rfl rfl; exact of_assign a0) <|
          Obls.nil
      intro R w hw hs hF'
      replace h1 : R 1 = (.pointer (some ⟨b1_0, 0, none⟩)) := (hs 1 rfl).trans h1
      replace h4 : R 4 = .int .i64 y7 := (hs 4 rfl).trans h4
      have h3 : R 3 = uo_u15 := hF' 1 _ _ rfl rfl rfl
      replace hO := hO.fr hw
      replace hA := hA.fr hw.size
      replace hF := hF.trans hw
      clear hs hF' hw
      refine seqR_nil ?_
      obtain ⟨e38, hr⟩ := ck_some hr
      refine HT.text (l := ⟨_, true, .raw (.int .i64 y7)⟩ :: ⟨_, true, .raw (.int .i64 (y7 + (1 : Int)))⟩ :: ⟨_, true, .raw (.int .i64 (y7 + (1 : Int)))⟩ :: []) (tl := []) (by kernel_rfl) (by kernel_rfl) (by kernel_rfl) ?_ ?_
      · exact
          Obls.cons (Obl.plain rfl rfl fun R' w' hw hs hd => by have a0 : R' 4 = .int .i64 y7 := (hs 4 rfl).trans h4; exact of_move a0) <|
          Obls.cons (Obl.plain rfl rfl fun R' w' hw hs hd => by have a0 : R' 13 = .int .i64 y7 := hd 0 _ _ _ rfl rfl rfl rfl rfl; exact of_add a0 rfl e38) <|
          Obls.cons (Obl.plain rfl rfl fun R' w' hw hs hd => by have a0 : R' 14 = .int .i64 (y7 + (1 : Int)) := hd 0 _ _ _ rfl rfl rfl rfl rfl; exact of_assign a0) <|
          Obls.nil
      intro R w hw hs hF'
      replace h1 : R 1 = (.pointer (some ⟨b1_0, 0, none⟩)) := (hs 1 rfl).trans h1
      replace h3 : R 3 = uo_u15 := (hs 3 rfl).trans h3
      have h4 : R 4 = .int .i64 (y7 + (1 : Int)) := hF' 2 _ _ rfl rfl rfl
      replace hO := hO.fr hw
      replace hA := hA.fr hw.size
      replace hF := hF.trans hw
      clear hs hF' hw
      refine seqR_nil ?_
      exact Exists.intro k (And.intro (Nat.lt_succ_self k) ⟨_, _, _, uo_u15, hr, hA, hF, hAA, hO, h1, h3, h4⟩)
    · have hr := cnd_f c9 hr
      refine HT.exit ?_
      obtain rfl := Option.some.inj hr
      replace hO : IniOK [ob ul_u3 (.vec w0.heap.size 33 (eSl (eInt .i64)) y8)] A w := hO.sub [(1, ob ul_u3 (.vec w0.heap.size 33 (eSl (eInt .i64)) y8))] ⟨rfl, rfl, trivial⟩
      exact Exists.intro _ ⟨_, ul_u3, rfl, hA, hF, hAA, hO, h3⟩
  rintro R w ⟨A, s6, uo_u3, es, hA, hF, hAA, hO, h3⟩
  obtain rfl := es.symm
  refine HT.seq ?_
  refine HT.text (l := ⟨_, true, .raw uo_u3⟩ :: ⟨_, true, .raw uo_u3⟩ :: []) (tl := []) (by kernel_rfl) (by kernel_rfl) (by kernel_rfl) ?_ ?_
  · exact
      Obls.cons (Obl.plain rfl rfl fun R' w' hw hs hd => by have a0 : R' 3 = uo_u3 := (hs 3 rfl).trans h3; exact of_move a0) <|
      Obls.cons (Obl.plain rfl rfl fun R' w' hw hs hd => by have a0 : R' 47 = uo_u3 := hd 0 _ _ _ rfl rfl rfl rfl rfl; exact of_assign a0) <|
      Obls.nil
  intro R w hw hs hF'
  have h2 : R 2 = uo_u3 := hF' 1 _ _ rfl rfl rfl
  replace hO := hO.fr hw
  replace hA := hA.fr hw.size
  replace hF := hF.trans hw
  clear hs hF' hw
  refine seqR_nil ?_
  refine HT.ret ?_
  obtain rfl := Option.some.inj hr
  exact ⟨.inr rfl, [R 2], ⟨rfl, trivial⟩, (own_post (hO.ok 0 _ rfl) hAA h2), hF⟩
theorem M_spec_l14Grid_okR {fu : Nat} {A0 : Av} {p0 : T_impl_RuleSet} {r : List (List Int)} (hr : M_spec_l14Grid fu p0 = some r) {w : World} {v0 : Value} (hA : AvOK A0 w) (h0 : Rep E_impl_RuleSet A0 w v0 p0) :
    Calls Try.prog 36 #[v0] w fun e w' => ∃ v, e = .returned v ∧ (Rep (eSl (eSl (eInt .i64))) A0 w' v r ∧ Fr w w') := by
  refine Calls.mono (M_spec_l14Grid_ok hr hA h0) ?_
  rintro e w' ⟨v, he, hv, hf⟩
  exact ⟨v, he, vec_rep hv (fun b o h => .inl h) hA, hf⟩
def M_spec_IsFeatureVector_L0 (fu : Nat) (p0 : List Int) : Nat → Int → Option (Ex Bool Unit)
  | 0, _ => none
  | k + 1, y4 =>
    bif (decide (y4 < (p0.length : Int))) then (
      ck (inR y4 p0.length) <|
      cl true (M_spec_l1In fu (gtD p0 y4) (0 : Int) (1000 : Int)) fun x7 =>
      bif (!x7) then (
        some (Ex.ret false)
      ) else (
        ck (i64B (y4 + (1 : Int))) <|
        M_spec_IsFeatureVector_L0 fu p0 k (y4 + (1 : Int))
      )
    ) else (
      some (Ex.go ())
    )
def M_spec_IsFeatureVector (fu : Nat) (p0 : List Int) : Option Bool :=
  cl true (M_spec_IsFeatureVector_L0 fu p0 fu (0 : Int)) fun rl1 =>
  exM rl1 (fun r => some r) fun s3 =>
  some ((p0.length : Int) == (6 : Int))
set_option maxRecDepth 100000 in
set_option maxHeartbeats 4000000 in
theorem M_spec_IsFeatureVector_ok {fu : Nat} {A : Av} {p0 : List Int} {r : Bool} (hr : M_spec_IsFeatureVector fu p0 = some r) {w : World} {v0 : Value} (hA : AvOK A w) (h0 : Rep (eSl (eInt .i64)) A w v0 p0) :
    Calls Try.prog 56 #[v0] w fun e w' => ∃ v, e = .returned v ∧ (v = .bool r ∧ Fr w w') := by
  unfold M_spec_IsFeatureVector at hr
  obtain ⟨w0, hw0⟩ : ∃ w0, w0 = w := ⟨_, rfl⟩
  have hF : Fr w0 w := hw0 ▸ Fr.refl _
  rw [show Fr w = Fr w0 from hw0 ▸ rfl]
  clear hw0
  refine calls_of_HT2 [.tmp 2] Try.func56 Try.ntmps56 (by decide) rfl rfl (Nat.le_of_ble_eq_true rfl) ?_
  intro R hR
  have f_v0 := h0
  replace h0 : R 0 = v0 := hR 0 _ rfl
  clear hR
  refine HT.seq ?_
  refine HT.text (l := ⟨_, true, .raw (.bool false)⟩ :: []) (tl := []) (by kernel_rfl) (by kernel_rfl) (by kernel_rfl) ?_ ?_
  · exact
      Obls.cons (Obl.plain rfl rfl fun R' w' hw hs hd => by exact of_assign rfl) <|
      Obls.nil
  intro R w hw hs hF'
  replace h0 : R 0 = v0 := (hs 0 rfl).trans h0
  replace f_v0 := f_v0.fr hw
  replace hA := hA.fr hw.size
  replace hF := hF.trans hw
  clear hs hF' hw
  refine seqR_nil ?_
  refine HT.seq ?_
  refine HT.seq ?_
  refine HT.text (l := ⟨_, true, .raw (.int .i64 (0 : Int))⟩ :: []) (tl := []) (by kernel_rfl) (by kernel_rfl) (by kernel_rfl) ?_ ?_
  · exact
      Obls.cons (Obl.plain rfl rfl fun R' w' hw hs hd => by exact of_assign rfl) <|
      Obls.nil
  intro R w hw hs hF'
  replace h0 : R 0 = v0 := (hs 0 rfl).trans h0
  have h3 : R 3 = .int .i64 (0 : Int) := hF' 0 _ _ rfl rfl rfl
  replace f_v0 := f_v0.fr hw
  replace hA := hA.fr hw.size
  replace hF := hF.trans hw
  clear hs hF' hw
  refine seqR_nil ?_
  obtain ⟨rl1, q2, hr⟩ := cl_some hr
  replace q2 := q2 rfl
  refine HT.cut0 (fun R w => ∃ (s3 : Unit), rl1 = Ex.go s3 ∧ AvOK A w ∧ Fr w0 w ∧ R 0 = v0 ∧ Rep (eSl (eInt .i64)) A w v0 p0) ?_ ?_
  · refine HT.block ?_
    refine HT.loop (fun k R w => ∃ (y4 : Int), M_spec_IsFeatureVector_L0 fu p0 k y4 = some rl1 ∧ AvOK A w ∧ Fr w0 w ∧ R 0 = v0 ∧ R 3 = .int .i64 y4 ∧ Rep (eSl (eInt .i64)) A w v0 p0) fu ⟨_, q2, hA, hF, h0, h3, f_v0⟩ ?_
    have hr0 := hr; clear hr q2
    rintro k R w ⟨y4, hr, hA, hF, h0, h3, f_v0⟩
    rcases k with _ | k
    · cases (show none = some _ from hr)
    rw [M_spec_IsFeatureVector_L0] at hr
    refine HT.seq ?_
    refine HT.seq ?_
    refine HT.text (l := ⟨_, true, .raw (.int .i64 y4)⟩ :: ⟨_, true, .raw v0⟩ :: ⟨_, true, .raw (.int .i64 (p0.length : Int))⟩ :: ⟨_, true, .raw (.bool (decide (y4 < (p0.length : Int))))⟩ :: []) (tl := []) (by kernel_rfl) (by kernel_rfl) (by kernel_rfl) ?_ ?_
    · exact
        Obls.cons (Obl.plain rfl rfl fun R' w' hw hs hd => by have a0 : R' 3 = .int .i64 y4 := (hs 3 rfl).trans h3; exact of_move a0) <|
        Obls.cons (Obl.plain rfl rfl fun R' w' hw hs hd => by have a0 : R' 0 = v0 := (hs 0 rfl).trans h0; exact of_move a0) <|
        Obls.cons (Obl.plain rfl rfl fun R' w' hw hs hd => by have a0 : R' 5 = v0 := hd 0 _ _ _ rfl rfl rfl rfl rfl; have ra0 := (f_v0.fr hw).eq a0; exact of_len_sl (aT := #[]) ra0 Try.underlying33) <|
        Obls.cons (Obl.plain rfl rfl fun R' w' hw hs hd => by have a0 : R' 4 = .int .i64 y4 := hd 0 _ _ _ rfl rfl rfl rfl rfl; have a1 : R' 6 = .int .i64 (p0.length : Int) := hd 1 _ _ _ rfl rfl rfl rfl rfl; exact of_lss a0 a1) <|
        Obls.nil
    intro R w hw hs hF'
    replace h0 : R 0 = v0 := (hs 0 rfl).trans h0
    replace h3 : R 3 = .int .i64 y4 := (hs 3 rfl).trans h3
    have h7 : R 7 = .bool (decide (y4 < (p0.length : Int))) := hF' 3 _ _ rfl rfl rfl
    replace f_v0 := f_v0.fr hw
    replace hA := hA.fr hw.size
    replace hF := hF.trans hw
    clear hs hF' hw
    refine seqR_nil ?_
    refine HT.cond (decide (y4 < (p0.length : Int))) h7 (fun c5 => ?_) (fun c5 => ?_)
    · have hr := cnd_t c5 hr
      refine HT.skip ?_
      refine HT.seq ?_
      refine HT.block ?_
      refine HT.seq ?_
      obtain ⟨e6, hr⟩ := ck_some hr
      obtain ⟨x7, q8, hr⟩ := cl_some hr
      refine HT.text (l := ⟨_, true, .raw v0⟩ :: ⟨_, true, .raw (.int .i64 y4)⟩ :: ⟨_, true, .qtr (eInt .i64) A (gtD p0 y4)⟩ :: ⟨_, true, .raw (.int .i64 (gtD p0 y4))⟩ :: ⟨_, true, .raw (.bool x7)⟩ :: ⟨_, true, .raw (.bool (!x7))⟩ :: []) (tl := []) (by kernel_rfl) (by kernel_rfl) (by kernel_rfl) ?_ ?_
      · exact
          Obls.cons (Obl.plain rfl rfl fun R' w' hw hs hd => by have a0 : R' 0 = v0 := (hs 0 rfl).trans h0; exact of_move a0) <|
          Obls.cons (Obl.plain rfl rfl fun R' w' hw hs hd => by have a0 : R' 3 = .int .i64 y4 := (hs 3 rfl).trans h3; exact of_move a0) <|
          Obls.cons (Obl.plain rfl rfl fun R' w' hw hs hd => by have a0 : R' 10 = v0 := hd 0 _ _ _ rfl rfl rfl rfl rfl; have a1 : R' 11 = .int .i64 y4 := hd 1 _ _ _ rfl rfl rfl rfl rfl; have ra0 := (f_v0.fr hw).eq a0; exact of_indexAddr ra0 a1 Try.underlying33 Try.sizeOf3 e6) <|
          Obls.cons (Obl.plain rfl rfl fun R' w' hw hs hd => by have a0 : QRep (eInt .i64) A w' (R' 12) (gtD p0 y4) := hd 0 _ _ _ rfl rfl rfl rfl rfl; exact OpF.int (of_load a0.ptr Try.isAgg3 Try.sizeOf3)) <|
          Obls.cons (Obl.plain rfl rfl fun R' w' hw hs hd => by have a0 : R' 13 = .int .i64 (gtD p0 y4) := hd 0 _ _ _ rfl rfl rfl rfl rfl; exact of_call Try.call51 (M_spec_l1In_ok (q8 rfl) (hA.fr hw.size) a0 rfl rfl)) <|
          Obls.cons (Obl.plain rfl rfl fun R' w' hw hs hd => by have a0 : R' 14 = .bool x7 := hd 0 _ _ _ rfl rfl rfl rfl rfl; exact of_not a0) <|
          Obls.nil
      intro R w hw hs hF'
      replace h0 : R 0 = v0 := (hs 0 rfl).trans h0
      replace h3 : R 3 = .int .i64 y4 := (hs 3 rfl).trans h3
      have h15 : R 15 = .bool (!x7) := hF' 5 _ _ rfl rfl rfl
      replace f_v0 := f_v0.fr hw
      replace hA := hA.fr hw.size
      replace hF := hF.trans hw
      clear hs hF' hw
      refine seqR_nil ?_
      refine HT.cond (!x7) h15 (fun c9 => ?_) (fun c9 => ?_)
      · have hr := cnd_t c9 hr
        refine HT.seq ?_
        refine HT.text (l := ⟨_, true, .raw (.bool false)⟩ :: []) (tl := []) (by kernel_rfl) (by kernel_rfl) (by kernel_rfl) ?_ ?_
        · exact
            Obls.cons (Obl.plain rfl rfl fun R' w' hw hs hd => by exact of_assign rfl) <|
            Obls.nil
        intro R w hw hs hF'
        have h2 : R 2 = .bool false := hF' 0 _ _ rfl rfl rfl
        replace hA := hA.fr hw.size
        replace hF := hF.trans hw
        clear hs hF' hw
        refine seqR_nil ?_
        refine HT.ret ?_
        obtain rfl := Option.some.inj hr
        have hr := hr0
        replace hr : some _ = some _ := hr
        obtain rfl := Option.some.inj hr
        exact ⟨.inr rfl, [R 2], ⟨rfl, trivial⟩, h2, hF⟩
      · have hr := cnd_f c9 hr
        refine HT.skip ?_
        obtain ⟨e10, hr⟩ := ck_some hr
        refine HT.text (l := ⟨_, true, .raw (.int .i64 y4)⟩ :: ⟨_, true, .raw (.int .i64 (y4 + (1 : Int)))⟩ :: ⟨_, true, .raw (.int .i64 (y4 + (1 : Int)))⟩ :: []) (tl := []) (by kernel_rfl) (by kernel_rfl) (by kernel_rfl) ?_ ?_
        · exact
            Obls.cons (Obl.plain rfl rfl fun R' w' hw hs hd => by have a0 : R' 3 = .int .i64 y4 := (hs 3 rfl).trans h3; exact of_move a0) <|
            Obls.cons (Obl.plain rfl rfl fun R' w' hw hs hd => by have a0 : R' 8 = .int .i64 y4 := hd 0 _ _ _ rfl rfl rfl rfl rfl; exact of_add a0 rfl e10) <|
            Obls.cons (Obl.plain rfl rfl fun R' w' hw hs hd => by have a0 : R' 9 = .int .i64 (y4 + (1 : Int)) := hd 0 _ _ _ rfl rfl rfl rfl rfl; exact of_assign a0) <|
            Obls.nil
        intro R w hw hs hF'
        replace h0 : R 0 = v0 := (hs 0 rfl).trans h0
        have h3 : R 3 = .int .i64 (y4 + (1 : Int)) := hF' 2 _ _ rfl rfl rfl
        replace f_v0 := f_v0.fr hw
        replace hA := hA.fr hw.size
        replace hF := hF.trans hw
        clear hs hF' hw
        refine seqR_nil ?_
        exact Exists.intro k (And.intro (Nat.lt_succ_self k) ⟨_, hr, hA, hF, h0, h3, f_v0⟩)
    · have hr := cnd_f c5 hr
      refine HT.exit ?_
      obtain rfl := Option.some.inj hr
      exact Exists.intro _ ⟨rfl, hA, hF, h0, f_v0⟩
  rintro R w ⟨s3, rfl, hA, hF, h0, f_v0⟩
  have hr := exM_go hr
  refine HT.seq ?_
  refine HT.text (l := ⟨_, true, .raw v0⟩ :: ⟨_, true, .raw (.int .i64 (p0.length : Int))⟩ :: ⟨_, true, .raw (.bool ((p0.length : Int) == (6 : Int)))⟩ :: ⟨_, true, .raw (.bool ((p0.length : Int) == (6 : Int)))⟩ :: []) (tl := []) (by kernel_rfl) (by kernel_rfl) (by kernel_rfl) ?_ ?_
  · exact
      Obls.cons (Obl.plain rfl rfl fun R' w' hw hs hd => by have a0 : R' 0 = v0 := (hs 0 rfl).trans h0; exact of_move a0) <|
      Obls.cons (Obl.plain rfl rfl fun R' w' hw hs hd => by have a0 : R' 16 = v0 := hd 0 _ _ _ rfl rfl rfl rfl rfl; have ra0 := (f_v0.fr hw).eq a0; exact of_len_sl (aT := #[]) ra0 Try.underlying33) <|
      Obls.cons (Obl.plain rfl rfl fun R' w' hw hs hd => by have a0 : R' 17 = .int .i64 (p0.length : Int) := hd 0 _ _ _ rfl rfl rfl rfl rfl; exact of_eql a0 rfl) <|
      Obls.cons (Obl.plain rfl rfl fun R' w' hw hs hd => by have a0 : R' 18 = .bool ((p0.length : Int) == (6 : Int)) := hd 0 _ _ _ rfl rfl rfl rfl rfl; exact of_assign a0) <|
      Obls.nil
  intro R w hw hs hF'
  have h2 : R 2 = .bool ((p0.length : Int) == (6 : Int)) := hF' 3 _ _ rfl rfl rfl
  replace hA := hA.fr hw.size
  replace hF := hF.trans hw
  clear hs hF' hw
  refine seqR_nil ?_
  refine HT.ret ?_
  obtain rfl := Option.some.inj hr
  exact ⟨.inr rfl, [R 2], ⟨rfl, trivial⟩, h2, hF⟩
def M_spec_TestHolds (fu : Nat) (p0 : T_impl_Test) (p1 : List Int) : Option Bool :=
  cl true (M_spec_IsFeatureVector fu p1) fun x2 =>
  cl (true && (x2 == true)) (M_spec_l1In fu p0.1 (0 : Int) (5 : Int)) fun x4 =>
  bd (x2 && x4) fun x6 =>
  ck (!(true && (x6 == true)) || inR p0.1 p1.length) <|
  bd (x6 && ((decide (p0.2.1 ≤ (gtD p1 p0.1))) != p0.2.2)) fun x9 =>
  some x9
set_option maxRecDepth 100000 in
set_option maxHeartbeats 4000000 in
theorem M_spec_TestHolds_ok {fu : Nat} {A0 : Av} {p0 : T_impl_Test} {p1 : List Int} {r : Bool} (hr : M_spec_TestHolds fu p0 p1 = some r) {w : World} {v0 : Value} {v1 : Value} (hA : AvOK A0 w) (h0 : Rep E_impl_Test A0 w v0 p0) (h1 : Rep (eSl (eInt .i64)) A0 w v1 p1) :
    Calls Try.prog 106 #[v0, v1] w fun e w' => ∃ v, e = .returned v ∧ (v = .bool r ∧ Fr w w') := by
  unfold M_spec_TestHolds at hr
  obtain ⟨w0, hw0⟩ : ∃ w0, w0 = w := ⟨_, rfl⟩
  have hF : Fr w0 w := hw0 ▸ Fr.refl _
  have hA0 : ∀ b o, A0 b o → b < w0.heap.size := fun b o h => hw0 ▸ hA b o h
  have hA00 : AvOK A0 w0 := hA0
  rw [show Fr w = Fr w0 from hw0 ▸ rfl]
  clear hw0
  obtain ⟨A, hAe⟩ : ∃ A, A = A0 := ⟨_, rfl⟩
  have hAA : ∀ b o, A0 b o → A b o := fun b o h => hAe ▸ h
  replace hA : AvOK A w := hAe ▸ hA
  have hO : IniOK [] A w := IniOK.nil
  refine calls_of_HT2 [.tmp 4] Try.func106 Try.ntmps106 (by decide) rfl rfl (Nat.le_of_ble_eq_true rfl) ?_
  intro R hR
  have f_v0 : Rep E_impl_Test A w v0 p0 := hAe ▸ h0
  replace h0 : R 0 = v0 := hR 0 _ rfl
  have f_v1 : Rep (eSl (eInt .i64)) A w v1 p1 := hAe ▸ h1
  replace h1 : R 1 = v1 := hR 1 _ rfl
  clear hR hAe
  refine HT.seq ?_
  refine HT.textR [] (⟨_, true, [], some (.box w0.heap.size 82 E_impl_Test p0), true, fun A => .any⟩ :: ⟨_, true, [], none, true, fun A => .raw (.bool false)⟩ :: []) (by kernel_rfl) (by kernel_rfl) (Wf.mk' (by kernel_rfl) (UAll.cons ust_any (UAll.cons ust_raw (UAll.nil))) (by kernel_rfl) (by kernel_rfl)) hO hA ?_ ?_
  · exact
      OblsR.cons (OblR.made _ rfl rfl rfl rfl fun A' R' w' ho hd => by have a0 : R' 0 = v0 := (ho.old 0 rfl).trans h0; have ra0 := (f_v0.stp ho.stp).eq a0; exact made_box ra0 (Nat.le_trans hF.size ho.ch.size)) <|
      OblsR.cons (OblR.plain rfl rfl rfl rfl fun A' R' w' ho hd => by exact of_assign rfl) <|
      OblsR.nil
  intro done ρ σ A R w hdn hI
  replace h1 : R 1 = v1 := (hI.reg rfl).trans h1
  obtain ⟨b2_0, e_b2_0⟩ := hI.boxv hdn 0 rfl rfl
  have h2 : R 2 = (.pointer (some ⟨b2_0, 0, none⟩)) := (hI.opvR hdn 0 0 rfl rfl rfl rfl rfl).symm.trans e_b2_0
  replace f_v1 := f_v1.stp hI.stp
  replace hAA := hI.low' hAA hA0 (hO.ge (trivial))
  replace hF : Fr w0 w := hF.tr hI.ch (hO.ge (trivial))
  replace hO : IniOK [ob (.pointer (some ⟨b2_0, 0, none⟩)) (.box w0.heap.size 82 E_impl_Test p0)] A w := hI.left hdn [(0, ob (.pointer (some ⟨b2_0, 0, none⟩)) (.box w0.heap.size 82 E_impl_Test p0))] ⟨rfl, rfl, e_b2_0, rfl, rfl, trivial⟩
  replace hA := hI.avok
  clear hI
  refine HT.seq ?_
  obtain ⟨x2, q3, hr⟩ := cl_some hr
  obtain ⟨x4, q5, hr⟩ := cl_some hr
  obtain ⟨x6, q7, hr⟩ := bd_some hr
  obtain ⟨e8, hr⟩ := ck_some hr
  obtain ⟨x9, q10, hr⟩ := bd_some hr
  refine HT.draw (by kernel_rfl) (l := ⟨_, true, .raw v1⟩ :: ⟨_, true, .raw (.bool x2)⟩ :: ⟨_, true, .raw (.bool x2)⟩ :: ⟨_, (true && (x2 == true)), .raw (.pointer (some ⟨b2_0, 0, none⟩))⟩ :: ⟨_, (true && (x2 == true)), .raw (.int .i64 p0.1)⟩ :: ⟨_, (true && (x2 == true)), .raw (.bool x4)⟩ :: ⟨_, true, .raw (.bool x6)⟩ :: ⟨_, true, .raw (.bool x6)⟩ :: ⟨_, (true && (x6 == true)), .raw v1⟩ :: ⟨_, (true && (x6 == true)), .raw (.pointer (some ⟨b2_0, 0, none⟩))⟩ :: ⟨_, (true && (x6 == true)), .raw (.int .i64 p0.1)⟩ :: ⟨_, (true && (x6 == true)), .qtr (eInt .i64) A (gtD p1 p0.1)⟩ :: ⟨_, (true && (x6 == true)), .raw (.int .i64 (gtD p1 p0.1))⟩ :: ⟨_, (true && (x6 == true)), .raw (.pointer (some ⟨b2_0, 1, none⟩))⟩ :: ⟨_, (true && (x6 == true)), .raw (.int .i64 p0.2.1)⟩ :: ⟨_, (true && (x6 == true)), .raw (.bool (decide (p0.2.1 ≤ (gtD p1 p0.1))))⟩ :: ⟨_, (true && (x6 == true)), .raw (.pointer (some ⟨b2_0, 2, none⟩))⟩ :: ⟨_, (true && (x6 == true)), .raw (.bool p0.2.2)⟩ :: ⟨_, (true && (x6 == true)), .raw (.bool ((decide (p0.2.1 ≤ (gtD p1 p0.1))) != p0.2.2))⟩ :: ⟨_, true, .raw (.bool x9)⟩ :: ⟨_, true, .raw (.bool x9)⟩ :: []) (tl := []) (by kernel_rfl) (by kernel_rfl) (by kernel_rfl) (by kernel_rfl) ?_ ?_
  · exact
      Obls.cons (Obl.plain rfl rfl fun R' w' hw hs hd => by have a0 : R' 1 = v1 := (hs 1 rfl).trans h1; exact of_move a0) <|
      Obls.cons (Obl.plain rfl rfl fun R' w' hw hs hd => by have a0 : R' 5 = v1 := hd 0 _ _ _ rfl rfl rfl rfl rfl; have ra0 := (f_v1.fr hw).eq a0; exact of_call Try.call56 (M_spec_IsFeatureVector_ok (q3 rfl) (hA.fr hw.size) ra0)) <|
      Obls.cons (Obl.plain rfl rfl fun R' w' hw hs hd => by have a0 : R' 6 = .bool x2 := hd 0 _ _ _ rfl rfl rfl rfl rfl; exact of_move a0) <|
      Obls.cons (Obl.grd 2 true _ _ _ rfl rfl rfl rfl rfl (by kernel_rfl) fun hg R' w' hw hs hd => by have a0 : R' 2 = (.pointer (some ⟨b2_0, 0, none⟩)) := (hs 2 rfl).trans h2; exact of_fieldAddr_raw a0 ff_82_0 Try.sizeOf3 (by decide) rfl) <|
      Obls.cons (Obl.grd 2 true _ _ _ rfl rfl rfl rfl rfl (by kernel_rfl) fun hg R' w' hw hs hd => by have a0 : R' 8 = (.pointer (some ⟨b2_0, 0, none⟩)) := hd 0 _ _ _ rfl rfl rfl rfl hg; exact OpF.int (of_load_box ((hO.fr hw).ok 0 _ rfl).1 a0 fl_impl_Test_0 rfl Try.isAgg3 Try.sizeOf3)) <|
      Obls.cons (Obl.grd 2 true _ _ _ rfl rfl rfl rfl rfl (by kernel_rfl) fun hg R' w' hw hs hd => by have a0 : R' 9 = .int .i64 p0.1 := hd 0 _ _ _ rfl rfl rfl rfl hg; exact of_call Try.call51 (M_spec_l1In_ok (q5 hg) (hA.fr hw.size) a0 rfl rfl)) <|
      Obls.cons (Obl.plain rfl rfl fun R' w' hw hs hd => by have a0 : R' 7 = .bool x2 := hd 0 _ _ _ rfl rfl rfl rfl rfl; exact of_pick x2 a0 (fun hc => by have a1 : R' 10 = .bool x4 := hd 1 _ _ _ rfl rfl rfl rfl (g_and rfl (beq_of hc)); show _ = Value.bool x6; rw [q7, hc]; exact a1) (fun hc => by show _ = Value.bool x6; rw [q7, hc]; exact rfl)) <|
      Obls.cons (Obl.plain rfl rfl fun R' w' hw hs hd => by have a0 : R' 11 = .bool x6 := hd 0 _ _ _ rfl rfl rfl rfl rfl; exact of_move a0) <|
      Obls.cons (Obl.grd 7 true _ _ _ rfl rfl rfl rfl rfl (by kernel_rfl) fun hg R' w' hw hs hd => by have a0 : R' 1 = v1 := (hs 1 rfl).trans h1; exact of_move a0) <|
      Obls.cons (Obl.grd 7 true _ _ _ rfl rfl rfl rfl rfl (by kernel_rfl) fun hg R' w' hw hs hd => by have a0 : R' 2 = (.pointer (some ⟨b2_0, 0, none⟩)) := (hs 2 rfl).trans h2; exact of_fieldAddr_raw a0 ff_82_0 Try.sizeOf3 (by decide) rfl) <|
      Obls.cons (Obl.grd 7 true _ _ _ rfl rfl rfl rfl rfl (by kernel_rfl) fun hg R' w' hw hs hd => by have a0 : R' 14 = (.pointer (some ⟨b2_0, 0, none⟩)) := hd 0 _ _ _ rfl rfl rfl rfl hg; exact OpF.int (of_load_box ((hO.fr hw).ok 0 _ rfl).1 a0 fl_impl_Test_0 rfl Try.isAgg3 Try.sizeOf3)) <|
      Obls.cons (Obl.grd 7 true _ _ _ rfl rfl rfl rfl rfl (by kernel_rfl) fun hg R' w' hw hs hd => by have a0 : R' 13 = v1 := hd 0 _ _ _ rfl rfl rfl rfl hg; have a1 : R' 15 = .int .i64 p0.1 := hd 1 _ _ _ rfl rfl rfl rfl hg; have ra0 := (f_v1.fr hw).eq a0; exact of_indexAddr ra0 a1 Try.underlying33 Try.sizeOf3 (gd e8 hg)) <|
      Obls.cons (Obl.grd 7 true _ _ _ rfl rfl rfl rfl rfl (by kernel_rfl) fun hg R' w' hw hs hd => by have a0 : QRep (eInt .i64) A w' (R' 16) (gtD p1 p0.1) := hd 0 _ _ _ rfl rfl rfl rfl hg; exact OpF.int (of_load a0.ptr Try.isAgg3 Try.sizeOf3)) <|
      Obls.cons (Obl.grd 7 true _ _ _ rfl rfl rfl rfl rfl (by kernel_rfl) fun hg R' w' hw hs hd => by have a0 : R' 2 = (.pointer (some ⟨b2_0, 0, none⟩)) := (hs 2 rfl).trans h2; exact of_fieldAddr_raw a0 ff_82_1 Try.sizeOf3 (by decide) rfl) <|
      Obls.cons (Obl.grd 7 true _ _ _ rfl rfl rfl rfl rfl (by kernel_rfl) fun hg R' w' hw hs hd => by have a0 : R' 18 = (.pointer (some ⟨b2_0, 1, none⟩)) := hd 0 _ _ _ rfl rfl rfl rfl hg; exact OpF.int (of_load_box ((hO.fr hw).ok 0 _ rfl).1 a0 fl_impl_Test_1 rfl Try.isAgg3 Try.sizeOf3)) <|
      Obls.cons (Obl.grd 7 true _ _ _ rfl rfl rfl rfl rfl (by kernel_rfl) fun hg R' w' hw hs hd => by have a0 : R' 17 = .int .i64 (gtD p1 p0.1) := hd 0 _ _ _ rfl rfl rfl rfl hg; have a1 : R' 19 = .int .i64 p0.2.1 := hd 1 _ _ _ rfl rfl rfl rfl hg; exact of_geq a0 a1) <|
      Obls.cons (Obl.grd 7 true _ _ _ rfl rfl rfl rfl rfl (by kernel_rfl) fun hg R' w' hw hs hd => by have a0 : R' 2 = (.pointer (some ⟨b2_0, 0, none⟩)) := (hs 2 rfl).trans h2; exact of_fieldAddr_raw a0 ff_82_2 Try.sizeOf4 (by decide) rfl) <|
      Obls.cons (Obl.grd 7 true _ _ _ rfl rfl rfl rfl rfl (by kernel_rfl) fun hg R' w' hw hs hd => by have a0 : R' 21 = (.pointer (some ⟨b2_0, 2, none⟩)) := hd 0 _ _ _ rfl rfl rfl rfl hg; exact OpF.bool (of_load_box ((hO.fr hw).ok 0 _ rfl).1 a0 fl_impl_Test_2 rfl Try.isAgg4 Try.sizeOf4)) <|
      Obls.cons (Obl.grd 7 true _ _ _ rfl rfl rfl rfl rfl (by kernel_rfl) fun hg R' w' hw hs hd => by have a0 : R' 20 = .bool (decide (p0.2.1 ≤ (gtD p1 p0.1))) := hd 0 _ _ _ rfl rfl rfl rfl hg; have a1 : R' 22 = .bool p0.2.2 := hd 1 _ _ _ rfl rfl rfl rfl hg; exact of_bneq Try.underlying4 a0 a1) <|
      Obls.cons (Obl.plain rfl rfl fun R' w' hw hs hd => by have a0 : R' 12 = .bool x6 := hd 0 _ _ _ rfl rfl rfl rfl rfl; exact of_pick x6 a0 (fun hc => by have a1 : R' 23 = .bool ((decide (p0.2.1 ≤ (gtD p1 p0.1))) != p0.2.2) := hd 1 _ _ _ rfl rfl rfl rfl (g_and rfl (beq_of hc)); show _ = Value.bool x9; rw [q10, hc]; exact a1) (fun hc => by show _ = Value.bool x9; rw [q10, hc]; exact rfl)) <|
      Obls.cons (Obl.plain rfl rfl fun R' w' hw hs hd => by have a0 : R' 24 = .bool x9 := hd 0 _ _ _ rfl rfl rfl rfl rfl; exact of_assign a0) <|
      Obls.nil
  intro R w hw hs hF'
  have h4 : R 4 = .bool x9 := hF' 20 _ _ rfl rfl rfl
  replace hO := hO.fr hw
  replace hO : IniOK [] A w := hO.sub [] trivial
  replace hA := hA.fr hw.size
  replace hF := hF.trans hw
  clear hs hF' hw
  refine seqR_nil ?_
  refine HT.ret ?_
  obtain rfl := Option.some.inj hr
  exact ⟨.inr rfl, [R 4], ⟨rfl, trivial⟩, h4, hF⟩
def M_spec_RuleHolds_L0 (fu : Nat) (p0 : T_impl_Rule) (p1 : List Int) : Nat → Int → Option (Ex Bool Unit)
  | 0, _ => none
  | k + 1, y5 =>
    bif (decide (y5 < (p0.length : Int))) then (
      ck (inR y5 p0.length) <|
      cl true (M_spec_TestHolds fu (gtD p0 y5) p1) fun x8 =>
      bif (!x8) then (
        some (Ex.ret false)
      ) else (
        ck (i64B (y5 + (1 : Int))) <|
        M_spec_RuleHolds_L0 fu p0 p1 k (y5 + (1 : Int))
      )
    ) else (
      some (Ex.go ())
    )
def M_spec_RuleHolds (fu : Nat) (p0 : T_impl_Rule) (p1 : List Int) : Option Bool :=
  cl true (M_spec_RuleHolds_L0 fu p0 p1 fu (0 : Int)) fun rl2 =>
  exM rl2 (fun r => some r) fun s4 =>
  cl true (M_spec_IsFeatureVector fu p1) fun x12 =>
  some x12
set_option maxRecDepth 100000 in
set_option maxHeartbeats 4000000 in
theorem M_spec_RuleHolds_ok {fu : Nat} {A0 : Av} {p0 : T_impl_Rule} {p1 : List Int} {r : Bool} (hr : M_spec_RuleHolds fu p0 p1 = some r) {w : World} {v0 : Value} {v1 : Value} (hA : AvOK A0 w) (h0 : Rep E_impl_Rule A0 w v0 p0) (h1 : Rep (eSl (eInt .i64)) A0 w v1 p1) :
    Calls Try.prog 89 #[v0, v1] w fun e w' => ∃ v, e = .returned v ∧ (v = .bool r ∧ Fr w w') := by
  unfold M_spec_RuleHolds at hr
  obtain ⟨w0, hw0⟩ : ∃ w0, w0 = w := ⟨_, rfl⟩
  have hF : Fr w0 w := hw0 ▸ Fr.refl _
  have hA0 : ∀ b o, A0 b o → b < w0.heap.size := fun b o h => hw0 ▸ hA b o h
  have hA00 : AvOK A0 w0 := hA0
  rw [show Fr w = Fr w0 from hw0 ▸ rfl]
  clear hw0
  obtain ⟨A, hAe⟩ : ∃ A, A = A0 := ⟨_, rfl⟩
  have hAA : ∀ b o, A0 b o → A b o := fun b o h => hAe ▸ h
  replace hA : AvOK A w := hAe ▸ hA
  have hO : IniOK [] A w := IniOK.nil
  refine calls_of_HT2 [.tmp 4] Try.func89 Try.ntmps89 (by decide) rfl rfl (Nat.le_of_ble_eq_true rfl) ?_
  intro R hR
  have f_v0 : Rep E_impl_Rule A w v0 p0 := hAe ▸ h0
  replace h0 : R 0 = v0 := hR 0 _ rfl
  have f_v1 : Rep (eSl (eInt .i64)) A w v1 p1 := hAe ▸ h1
  replace h1 : R 1 = v1 := hR 1 _ rfl
  clear hR hAe
  refine HT.seq ?_
  refine HT.textR [] (⟨_, true, [], some (.box w0.heap.size 79 E_impl_Rule p0), true, fun A => .any⟩ :: ⟨_, true, [], none, true, fun A => .raw (.bool false)⟩ :: []) (by kernel_rfl) (by kernel_rfl) (Wf.mk' (by kernel_rfl) (UAll.cons ust_any (UAll.cons ust_raw (UAll.nil))) (by kernel_rfl) (by kernel_rfl)) hO hA ?_ ?_
  · exact
      OblsR.cons (OblR.made _ rfl rfl rfl rfl fun A' R' w' ho hd => by have a0 : R' 0 = v0 := (ho.old 0 rfl).trans h0; have ra0 := (f_v0.stp ho.stp).eq a0; exact made_box ra0 (Nat.le_trans hF.size ho.ch.size)) <|
      OblsR.cons (OblR.plain rfl rfl rfl rfl fun A' R' w' ho hd => by exact of_assign rfl) <|
      OblsR.nil
  intro done ρ σ A R w hdn hI
  replace h1 : R 1 = v1 := (hI.reg rfl).trans h1
  obtain ⟨b2_0, e_b2_0⟩ := hI.boxv hdn 0 rfl rfl
  have h2 : R 2 = (.pointer (some ⟨b2_0, 0, none⟩)) := (hI.opvR hdn 0 0 rfl rfl rfl rfl rfl).symm.trans e_b2_0
  replace f_v1 := f_v1.stp hI.stp
  replace hAA := hI.low' hAA hA0 (hO.ge (trivial))
  replace hF : Fr w0 w := hF.tr hI.ch (hO.ge (trivial))
  replace hO : IniOK [ob (.pointer (some ⟨b2_0, 0, none⟩)) (.box w0.heap.size 79 E_impl_Rule p0)] A w := hI.left hdn [(0, ob (.pointer (some ⟨b2_0, 0, none⟩)) (.box w0.heap.size 79 E_impl_Rule p0))] ⟨rfl, rfl, e_b2_0, rfl, rfl, trivial⟩
  replace hA := hI.avok
  clear hI
  refine HT.seq ?_
  refine HT.seq ?_
  refine HT.text (l := ⟨_, true, .raw (.int .i64 (0 : Int))⟩ :: []) (tl := []) (by kernel_rfl) (by kernel_rfl) (by kernel_rfl) ?_ ?_
  · exact
      Obls.cons (Obl.plain rfl rfl fun R' w' hw hs hd => by exact of_assign rfl) <|
      Obls.nil
  intro R w hw hs hF'
  replace h1 : R 1 = v1 := (hs 1 rfl).trans h1
  replace h2 : R 2 = (.pointer (some ⟨b2_0, 0, none⟩)) := (hs 2 rfl).trans h2
  have h5 : R 5 = .int .i64 (0 : Int) := hF' 0 _ _ rfl rfl rfl
  replace f_v1 := f_v1.fr hw
  replace hO := hO.fr hw
  replace hA := hA.fr hw.size
  replace hF := hF.trans hw
  clear hs hF' hw
  refine seqR_nil ?_
  obtain ⟨rl2, q3, hr⟩ := cl_some hr
  replace q3 := q3 rfl
  refine HT.cut0 (fun R w => ∃ A : Av, ∃ (s4 : Unit), rl2 = Ex.go s4 ∧ AvOK A w ∧ Fr w0 w ∧ (∀ b o, A0 b o → A b o) ∧ IniOK [] A w ∧ R 1 = v1 ∧ Rep (eSl (eInt .i64)) A w v1 p1) ?_ ?_
  · refine HT.block ?_
    refine HT.loop (fun k R w => ∃ A : Av, ∃ (y5 : Int), M_spec_RuleHolds_L0 fu p0 p1 k y5 = some rl2 ∧ AvOK A w ∧ Fr w0 w ∧ (∀ b o, A0 b o → A b o) ∧ IniOK [ob (.pointer (some ⟨b2_0, 0, none⟩)) (.box w0.heap.size 79 E_impl_Rule p0)] A w ∧ R 1 = v1 ∧ R 2 = (.pointer (some ⟨b2_0, 0, none⟩)) ∧ R 5 = .int .i64 y5 ∧ Rep (eSl (eInt .i64)) A w v1 p1) fu ⟨_, _, q3, hA, hF, hAA, hO, h1, h2, h5, f_v1⟩ ?_
    have hr0 := hr; clear hr q3
    rintro k R w ⟨A, y5, hr, hA, hF, hAA, hO, h1, h2, h5, f_v1⟩
    rcases k with _ | k
    · cases (show none = some _ from hr)
    rw [M_spec_RuleHolds_L0] at hr
    refine HT.seq ?_
    refine HT.seq ?_
    refine HT.text (l := ⟨_, true, .raw (.int .i64 y5)⟩ :: ⟨_, true, .raw (.pointer (some ⟨b2_0, 0, none⟩))⟩ :: ⟨_, true, .rep (eSl E_impl_Test) A p0⟩ :: ⟨_, true, .raw (.int .i64 (p0.length : Int))⟩ :: ⟨_, true, .raw (.bool (decide (y5 < (p0.length : Int))))⟩ :: []) (tl := []) (by kernel_rfl) (by kernel_rfl) (by kernel_rfl) ?_ ?_
    · exact
        Obls.cons (Obl.plain rfl rfl fun R' w' hw hs hd => by have a0 : R' 5 = .int .i64 y5 := (hs 5 rfl).trans h5; exact of_move a0) <|
        Obls.cons (Obl.plain rfl rfl fun R' w' hw hs hd => by have a0 : R' 2 = (.pointer (some ⟨b2_0, 0, none⟩)) := (hs 2 rfl).trans h2; exact of_fieldAddr_raw a0 ff_79_0 Try.sizeOf65 (by decide) rfl) <|
        Obls.cons (Obl.plain rfl rfl fun R' w' hw hs hd => by have a0 : R' 7 = (.pointer (some ⟨b2_0, 0, none⟩)) := hd 0 _ _ _ rfl rfl rfl rfl rfl; exact (of_load_box ((hO.fr hw).ok 0 _ rfl).1 a0 fl_impl_Rule_0 rfl Try.isAgg65 Try.sizeOf65)) <|
        Obls.cons (Obl.plain rfl rfl fun R' w' hw hs hd => by have a0 : Rep (eSl E_impl_Test) A w' (R' 8) p0 := hd 0 _ _ _ rfl rfl rfl rfl rfl; exact of_len_sl (aT := #[]) a0 Try.underlying65) <|
        Obls.cons (Obl.plain rfl rfl fun R' w' hw hs hd => by have a0 : R' 6 = .int .i64 y5 := hd 0 _ _ _ rfl rfl rfl rfl rfl; have a1 : R' 9 = .int .i64 (p0.length : Int) := hd 1 _ _ _ rfl rfl rfl rfl rfl; exact of_lss a0 a1) <|
        Obls.nil
    intro R w hw hs hF'
    replace h1 : R 1 = v1 := (hs 1 rfl).trans h1
    replace h2 : R 2 = (.pointer (some ⟨b2_0, 0, none⟩)) := (hs 2 rfl).trans h2
    replace h5 : R 5 = .int .i64 y5 := (hs 5 rfl).trans h5
    have h10 : R 10 = .bool (decide (y5 < (p0.length : Int))) := hF' 4 _ _ rfl rfl rfl
    replace f_v1 := f_v1.fr hw
    replace hO := hO.fr hw
    replace hA := hA.fr hw.size
    replace hF := hF.trans hw
    clear hs hF' hw
    refine seqR_nil ?_
    refine HT.cond (decide (y5 < (p0.length : Int))) h10 (fun c6 => ?_) (fun c6 => ?_)
    · have hr := cnd_t c6 hr
      refine HT.skip ?_
      refine HT.seq ?_
      refine HT.block ?_
      refine HT.seq ?_
      obtain ⟨e7, hr⟩ := ck_some hr
      obtain ⟨x8, q9, hr⟩ := cl_some hr
      refine HT.text (l := ⟨_, true, .raw (.pointer (some ⟨b2_0, 0, none⟩))⟩ :: ⟨_, true, .rep (eSl E_impl_Test) A p0⟩ :: ⟨_, true, .raw (.int .i64 y5)⟩ :: ⟨_, true, .qtr E_impl_Test A (gtD p0 y5)⟩ :: ⟨_, true, .rep E_impl_Test A (gtD p0 y5)⟩ :: ⟨_, true, .raw v1⟩ :: ⟨_, true, .raw (.bool x8)⟩ :: ⟨_, true, .raw (.bool (!x8))⟩ :: []) (tl := []) (by kernel_rfl) (by kernel_rfl) (by kernel_rfl) ?_ ?_
      · exact
          Obls.cons (Obl.plain rfl rfl fun R' w' hw hs hd => by have a0 : R' 2 = (.pointer (some ⟨b2_0, 0, none⟩)) := (hs 2 rfl).trans h2; exact of_fieldAddr_raw a0 ff_79_0 Try.sizeOf65 (by decide) rfl) <|
          Obls.cons (Obl.plain rfl rfl fun R' w' hw hs hd => by have a0 : R' 13 = (.pointer (some ⟨b2_0, 0, none⟩)) := hd 0 _ _ _ rfl rfl rfl rfl rfl; exact (of_load_box ((hO.fr hw).ok 0 _ rfl).1 a0 fl_impl_Rule_0 rfl Try.isAgg65 Try.sizeOf65)) <|
          Obls.cons (Obl.plain rfl rfl fun R' w' hw hs hd => by have a0 : R' 5 = .int .i64 y5 := (hs 5 rfl).trans h5; exact of_move a0) <|
          Obls.cons (Obl.plain rfl rfl fun R' w' hw hs hd => by have a0 : Rep (eSl E_impl_Test) A w' (R' 14) p0 := hd 0 _ _ _ rfl rfl rfl rfl rfl; have a1 : R' 15 = .int .i64 y5 := hd 1 _ _ _ rfl rfl rfl rfl rfl; exact of_indexAddr a0 a1 Try.underlying65 Try.sizeOf82 e7) <|
          Obls.cons (Obl.plain rfl rfl fun R' w' hw hs hd => by have a0 : QRep E_impl_Test A w' (R' 16) (gtD p0 y5) := hd 0 _ _ _ rfl rfl rfl rfl rfl; exact (of_load a0.ptr Try.isAgg82 Try.sizeOf82)) <|
          Obls.cons (Obl.plain rfl rfl fun R' w' hw hs hd => by have a0 : R' 1 = v1 := (hs 1 rfl).trans h1; exact of_move a0) <|
          Obls.cons (Obl.plain rfl rfl fun R' w' hw hs hd => by have a0 : Rep E_impl_Test A w' (R' 17) (gtD p0 y5) := hd 0 _ _ _ rfl rfl rfl rfl rfl; have a1 : R' 18 = v1 := hd 1 _ _ _ rfl rfl rfl rfl rfl; have ra1 := (f_v1.fr hw).eq a1; exact of_call Try.call106 (M_spec_TestHolds_ok (q9 rfl) (hA.fr hw.size) a0 ra1)) <|
          Obls.cons (Obl.plain rfl rfl fun R' w' hw hs hd => by have a0 : R' 19 = .bool x8 := hd 0 _ _ _ rfl rfl rfl rfl rfl; exact of_not a0) <|
          Obls.nil
      intro R w hw hs hF'
      replace h1 : R 1 = v1 := (hs 1 rfl).trans h1
      replace h2 : R 2 = (.pointer (some ⟨b2_0, 0, none⟩)) := (hs 2 rfl).trans h2
      replace h5 : R 5 = .int .i64 y5 := (hs 5 rfl).trans h5
      have h20 : R 20 = .bool (!x8) := hF' 7 _ _ rfl rfl rfl
      replace f_v1 := f_v1.fr hw
      replace hO := hO.fr hw
      replace hA := hA.fr hw.size
      replace hF := hF.trans hw
      clear hs hF' hw
      refine seqR_nil ?_
      refine HT.cond (!x8) h20 (fun c10 => ?_) (fun c10 => ?_)
      · have hr := cnd_t c10 hr
        refine HT.seq ?_
        refine HT.text (l := ⟨_, true, .raw (.bool false)⟩ :: []) (tl := []) (by kernel_rfl) (by kernel_rfl) (by kernel_rfl) ?_ ?_
        · exact
            Obls.cons (Obl.plain rfl rfl fun R' w' hw hs hd => by exact of_assign rfl) <|
            Obls.nil
        intro R w hw hs hF'
        have h4 : R 4 = .bool false := hF' 0 _ _ rfl rfl rfl
        replace hO := hO.fr hw
        replace hO : IniOK [] A w := hO.sub [] trivial
        replace hA := hA.fr hw.size
        replace hF := hF.trans hw
        clear hs hF' hw
        refine seqR_nil ?_
        refine HT.ret ?_
        obtain rfl := Option.some.inj hr
        have hr := hr0
        replace hr : some _ = some _ := hr
        obtain rfl := Option.some.inj hr
        exact ⟨.inr rfl, [R 4], ⟨rfl, trivial⟩, h4, hF⟩
      · have hr := cnd_f c10 hr
        refine HT.skip ?_
        obtain ⟨e11, hr⟩ := ck_some hr
        refine HT.text (l := ⟨_, true, .raw (.int .i64 y5)⟩ :: ⟨_, true, .raw (.int .i64 (y5 + (1 : Int)))⟩ :: ⟨_, true, .raw (.int .i64 (y5 + (1 : Int)))⟩ :: []) (tl := []) (by kernel_rfl) (by kernel_rfl) (by kernel_rfl) ?_ ?_
        · exact
            Obls.cons (Obl.plain rfl rfl fun R' w' hw hs hd => by have a0 : R' 5 = .int .i64 y5 := (hs 5 rfl).trans h5; exact of_move a0) <|
            Obls.cons (Obl.plain rfl rfl fun R' w' hw hs hd => by have a0 : R' 11 = .int .i64 y5 := hd 0 _ _ _ rfl rfl rfl rfl rfl; exact of_add a0 rfl e11) <|
            Obls.cons (Obl.plain rfl rfl fun R' w' hw hs hd => by have a0 : R' 12 = .int .i64 (y5 + (1 : Int)) := hd 0 _ _ _ rfl rfl rfl rfl rfl; exact of_assign a0) <|
            Obls.nil
        intro R w hw hs hF'
        replace h1 : R 1 = v1 := (hs 1 rfl).trans h1
        replace h2 : R 2 = (.pointer (some ⟨b2_0, 0, none⟩)) := (hs 2 rfl).trans h2
        have h5 : R 5 = .int .i64 (y5 + (1 : Int)) := hF' 2 _ _ rfl rfl rfl
        replace f_v1 := f_v1.fr hw
        replace hO := hO.fr hw
        replace hA := hA.fr hw.size
        replace hF := hF.trans hw
        clear hs hF' hw
        refine seqR_nil ?_
        exact Exists.intro k (And.intro (Nat.lt_succ_self k) ⟨_, _, hr, hA, hF, hAA, hO, h1, h2, h5, f_v1⟩)
    · have hr := cnd_f c6 hr
      refine HT.exit ?_
      obtain rfl := Option.some.inj hr
      replace hO : IniOK [] A w := hO.sub [] trivial
      exact Exists.intro _ ⟨_, rfl, hA, hF, hAA, hO, h1, f_v1⟩
  rintro R w ⟨A, s4, rfl, hA, hF, hAA, hO, h1, f_v1⟩
  have hr := exM_go hr
  refine HT.seq ?_
  obtain ⟨x12, q13, hr⟩ := cl_some hr
  refine HT.text (l := ⟨_, true, .raw v1⟩ :: ⟨_, true, .raw (.bool x12)⟩ :: ⟨_, true, .raw (.bool x12)⟩ :: []) (tl := []) (by kernel_rfl) (by kernel_rfl) (by kernel_rfl) ?_ ?_
  · exact
      Obls.cons (Obl.plain rfl rfl fun R' w' hw hs hd => by have a0 : R' 1 = v1 := (hs 1 rfl).trans h1; exact of_move a0) <|
      Obls.cons (Obl.plain rfl rfl fun R' w' hw hs hd => by have a0 : R' 21 = v1 := hd 0 _ _ _ rfl rfl rfl rfl rfl; have ra0 := (f_v1.fr hw).eq a0; exact of_call Try.call56 (M_spec_IsFeatureVector_ok (q13 rfl) (hA.fr hw.size) ra0)) <|
      Obls.cons (Obl.plain rfl rfl fun R' w' hw hs hd => by have a0 : R' 22 = .bool x12 := hd 0 _ _ _ rfl rfl rfl rfl rfl; exact of_assign a0) <|
      Obls.nil
  intro R w hw hs hF'
  have h4 : R 4 = .bool x12 := hF' 2 _ _ rfl rfl rfl
  replace hO := hO.fr hw
  replace hA := hA.fr hw.size
  replace hF := hF.trans hw
  clear hs hF' hw
  refine seqR_nil ?_
  refine HT.ret ?_
  obtain rfl := Option.some.inj hr
  exact ⟨.inr rfl, [R 4], ⟨rfl, trivial⟩, h4, hF⟩
def M_spec_FirstRule_L0 (fu : Nat) (p0 : T_impl_RuleSet) (p1 : List Int) : Nat → Int → Option (Ex Int Unit)
  | 0, _ => none
  | k + 1, y5 =>
    cl (true && ((decide (y5 < (p0.length : Int))) == true)) (M_spec_IsValidRules fu p0) fun x6 =>
    bd ((decide (y5 < (p0.length : Int))) && x6) fun x8 =>
    bif x8 then (
      ck (inR y5 p0.length) <|
      cl true (M_spec_RuleHolds fu (gtD p0 y5) p1) fun x12 =>
      bif x12 then (
        some (Ex.ret y5)
      ) else (
        ck (i64B (y5 + (1 : Int))) <|
        M_spec_FirstRule_L0 fu p0 p1 k (y5 + (1 : Int))
      )
    ) else (
      some (Ex.go ())
    )
def M_spec_FirstRule (fu : Nat) (p0 : T_impl_RuleSet) (p1 : List Int) : Option Int :=
  cl true (M_spec_FirstRule_L0 fu p0 p1 fu (0 : Int)) fun rl2 =>
  exM rl2 (fun r => some r) fun s4 =>
  some (-1 : Int)
set_option maxRecDepth 100000 in
set_option maxHeartbeats 4000000 in
theorem M_spec_FirstRule_ok {fu : Nat} {A0 : Av} {p0 : T_impl_RuleSet} {p1 : List Int} {r : Int} (hr : M_spec_FirstRule fu p0 p1 = some r) {w : World} {v0 : Value} {v1 : Value} (hA : AvOK A0 w) (h0 : Rep E_impl_RuleSet A0 w v0 p0) (h1 : Rep (eSl (eInt .i64)) A0 w v1 p1) :
    Calls Try.prog 57 #[v0, v1] w fun e w' => ∃ v, e = .returned v ∧ (v = .int .i64 r ∧ Fr w w') := by
  unfold M_spec_FirstRule at hr
  obtain ⟨w0, hw0⟩ : ∃ w0, w0 = w := ⟨_, rfl⟩
  have hF : Fr w0 w := hw0 ▸ Fr.refl _
  have hA0 : ∀ b o, A0 b o → b < w0.heap.size := fun b o h => hw0 ▸ hA b o h
  have hA00 : AvOK A0 w0 := hA0
  rw [show Fr w = Fr w0 from hw0 ▸ rfl]
  clear hw0
  obtain ⟨A, hAe⟩ : ∃ A, A = A0 := ⟨_, rfl⟩
  have hAA : ∀ b o, A0 b o → A b o := fun b o h => hAe ▸ h
  replace hA : AvOK A w := hAe ▸ hA
  have hO : IniOK [] A w := IniOK.nil
  refine calls_of_HT2 [.tmp 4] Try.func57 Try.ntmps57 (by decide) rfl rfl (Nat.le_of_ble_eq_true rfl) ?_
  intro R hR
  have f_v0 : Rep E_impl_RuleSet A w v0 p0 := hAe ▸ h0
  replace h0 : R 0 = v0 := hR 0 _ rfl
  have f_v1 : Rep (eSl (eInt .i64)) A w v1 p1 := hAe ▸ h1
  replace h1 : R 1 = v1 := hR 1 _ rfl
  clear hR hAe
  refine HT.seq ?_
  refine HT.textR [] (⟨_, true, [], some (.box w0.heap.size 29 E_impl_RuleSet p0), true, fun A => .any⟩ :: ⟨_, true, [], none, true, fun A => .raw (.int .i64 (0 : Int))⟩ :: []) (by kernel_rfl) (by kernel_rfl) (Wf.mk' (by kernel_rfl) (UAll.cons ust_any (UAll.cons ust_raw (UAll.nil))) (by kernel_rfl) (by kernel_rfl)) hO hA ?_ ?_
  · exact
      OblsR.cons (OblR.made _ rfl rfl rfl rfl fun A' R' w' ho hd => by have a0 : R' 0 = v0 := (ho.old 0 rfl).trans h0; have ra0 := (f_v0.stp ho.stp).eq a0; exact made_box ra0 (Nat.le_trans hF.size ho.ch.size)) <|
      OblsR.cons (OblR.plain rfl rfl rfl rfl fun A' R' w' ho hd => by exact of_assign rfl) <|
      OblsR.nil
  intro done ρ σ A R w hdn hI
  replace h1 : R 1 = v1 := (hI.reg rfl).trans h1
  obtain ⟨b2_0, e_b2_0⟩ := hI.boxv hdn 0 rfl rfl
  have h2 : R 2 = (.pointer (some ⟨b2_0, 0, none⟩)) := (hI.opvR hdn 0 0 rfl rfl rfl rfl rfl).symm.trans e_b2_0
  replace f_v1 := f_v1.stp hI.stp
  replace hAA := hI.low' hAA hA0 (hO.ge (trivial))
  replace hF : Fr w0 w := hF.tr hI.ch (hO.ge (trivial))
  replace hO : IniOK [ob (.pointer (some ⟨b2_0, 0, none⟩)) (.box w0.heap.size 29 E_impl_RuleSet p0)] A w := hI.left hdn [(0, ob (.pointer (some ⟨b2_0, 0, none⟩)) (.box w0.heap.size 29 E_impl_RuleSet p0))] ⟨rfl, rfl, e_b2_0, rfl, rfl, trivial⟩
  replace hA := hI.avok
  clear hI
  refine HT.seq ?_
  refine HT.seq ?_
  refine HT.text (l := ⟨_, true, .raw (.int .i64 (0 : Int))⟩ :: []) (tl := []) (by kernel_rfl) (by kernel_rfl) (by kernel_rfl) ?_ ?_
  · exact
      Obls.cons (Obl.plain rfl rfl fun R' w' hw hs hd => by exact of_assign rfl) <|
      Obls.nil
  intro R w hw hs hF'
  replace h1 : R 1 = v1 := (hs 1 rfl).trans h1
  replace h2 : R 2 = (.pointer (some ⟨b2_0, 0, none⟩)) := (hs 2 rfl).trans h2
  have h5 : R 5 = .int .i64 (0 : Int) := hF' 0 _ _ rfl rfl rfl
  replace f_v1 := f_v1.fr hw
  replace hO := hO.fr hw
  replace hA := hA.fr hw.size
  replace hF := hF.trans hw
  clear hs hF' hw
  refine seqR_nil ?_
  obtain ⟨rl2, q3, hr⟩ := cl_some hr
  replace q3 := q3 rfl
  refine HT.cut0 (fun R w => ∃ A : Av, ∃ (s4 : Unit), rl2 = Ex.go s4 ∧ AvOK A w ∧ Fr w0 w ∧ (∀ b o, A0 b o → A b o) ∧ IniOK [] A w) ?_ ?_
  · refine HT.block ?_
    refine HT.loop (fun k R w => ∃ A : Av, ∃ (y5 : Int), M_spec_FirstRule_L0 fu p0 p1 k y5 = some rl2 ∧ AvOK A w ∧ Fr w0 w ∧ (∀ b o, A0 b o → A b o) ∧ IniOK [ob (.pointer (some ⟨b2_0, 0, none⟩)) (.box w0.heap.size 29 E_impl_RuleSet p0)] A w ∧ R 1 = v1 ∧ R 2 = (.pointer (some ⟨b2_0, 0, none⟩)) ∧ R 5 = .int .i64 y5 ∧ Rep (eSl (eInt .i64)) A w v1 p1) fu ⟨_, _, q3, hA, hF, hAA, hO, h1, h2, h5, f_v1⟩ ?_
    have hr0 := hr; clear hr q3
    rintro k R w ⟨A, y5, hr, hA, hF, hAA, hO, h1, h2, h5, f_v1⟩
    rcases k with _ | k
    · cases (show none = some _ from hr)
    rw [M_spec_FirstRule_L0] at hr
    refine HT.seq ?_
    refine HT.seq ?_
    obtain ⟨x6, q7, hr⟩ := cl_some hr
    obtain ⟨x8, q9, hr⟩ := bd_some hr
    refine HT.text (l := ⟨_, true, .raw (.int .i64 y5)⟩ :: ⟨_, true, .raw (.pointer (some ⟨b2_0, 0, none⟩))⟩ :: ⟨_, true, .rep (eSl E_impl_Rule) A p0⟩ :: ⟨_, true, .raw (.int .i64 (p0.length : Int))⟩ :: ⟨_, true, .raw (.bool (decide (y5 < (p0.length : Int))))⟩ :: ⟨_, true, .raw (.bool (decide (y5 < (p0.length : Int))))⟩ :: ⟨_, (true && ((decide (y5 < (p0.length : Int))) == true)), .rep E_impl_RuleSet A p0⟩ :: ⟨_, (true && ((decide (y5 < (p0.length : Int))) == true)), .raw (.bool x6)⟩ :: ⟨_, true, .raw (.bool x8)⟩ :: []) (tl := []) (by kernel_rfl) (by kernel_rfl) (by kernel_rfl) ?_ ?_
    · exact
        Obls.cons (Obl.plain rfl rfl fun R' w' hw hs hd => by have a0 : R' 5 = .int .i64 y5 := (hs 5 rfl).trans h5; exact of_move a0) <|
        Obls.cons (Obl.plain rfl rfl fun R' w' hw hs hd => by have a0 : R' 2 = (.pointer (some ⟨b2_0, 0, none⟩)) := (hs 2 rfl).trans h2; exact of_fieldAddr_raw a0 ff_29_0 Try.sizeOf27 (by decide) rfl) <|
        Obls.cons (Obl.plain rfl rfl fun R' w' hw hs hd => by have a0 : R' 7 = (.pointer (some ⟨b2_0, 0, none⟩)) := hd 0 _ _ _ rfl rfl rfl rfl rfl; exact (of_load_box ((hO.fr hw).ok 0 _ rfl).1 a0 fl_impl_RuleSet_0 rfl Try.isAgg27 Try.sizeOf27)) <|
        Obls.cons (Obl.plain rfl rfl fun R' w' hw hs hd => by have a0 : Rep (eSl E_impl_Rule) A w' (R' 8) p0 := hd 0 _ _ _ rfl rfl rfl rfl rfl; exact of_len_sl (aT := #[]) a0 Try.underlying27) <|
        Obls.cons (Obl.plain rfl rfl fun R' w' hw hs hd => by have a0 : R' 6 = .int .i64 y5 := hd 0 _ _ _ rfl rfl rfl rfl rfl; have a1 : R' 9 = .int .i64 (p0.length : Int) := hd 1 _ _ _ rfl rfl rfl rfl rfl; exact of_lss a0 a1) <|
        Obls.cons (Obl.plain rfl rfl fun R' w' hw hs hd => by have a0 : R' 10 = .bool (decide (y5 < (p0.length : Int))) := hd 0 _ _ _ rfl rfl rfl rfl rfl; exact of_move a0) <|
        Obls.cons (Obl.grd 5 true _ _ _ rfl rfl rfl rfl rfl (by kernel_rfl) fun hg R' w' hw hs hd => by have a0 : R' 2 = (.pointer (some ⟨b2_0, 0, none⟩)) := (hs 2 rfl).trans h2; exact (of_load_box ((hO.fr hw).ok 0 _ rfl).1 a0 (Fld.id _) rfl Try.isAgg29 Try.sizeOf29)) <|
        Obls.cons (Obl.grd 5 true _ _ _ rfl rfl rfl rfl rfl (by kernel_rfl) fun hg R' w' hw hs hd => by have a0 : Rep E_impl_RuleSet A w' (R' 12) p0 := hd 0 _ _ _ rfl rfl rfl rfl hg; exact of_call Try.call26 (M_spec_IsValidRules_ok (q7 hg) (hA.fr hw.size) a0)) <|
        Obls.cons (Obl.plain rfl rfl fun R' w' hw hs hd => by have a0 : R' 11 = .bool (decide (y5 < (p0.length : Int))) := hd 0 _ _ _ rfl rfl rfl rfl rfl; exact of_pick (decide (y5 < (p0.length : Int))) a0 (fun hc => by have a1 : R' 13 = .bool x6 := hd 1 _ _ _ rfl rfl rfl rfl (g_and rfl (beq_of hc)); show _ = Value.bool x8; rw [q9, hc]; exact a1) (fun hc => by show _ = Value.bool x8; rw [q9, hc]; exact rfl)) <|
        Obls.nil
    intro R w hw hs hF'
    replace h1 : R 1 = v1 := (hs 1 rfl).trans h1
    replace h2 : R 2 = (.pointer (some ⟨b2_0, 0, none⟩)) := (hs 2 rfl).trans h2
    replace h5 : R 5 = .int .i64 y5 := (hs 5 rfl).trans h5
    have h14 : R 14 = .bool x8 := hF' 8 _ _ rfl rfl rfl
    replace f_v1 := f_v1.fr hw
    replace hO := hO.fr hw
    replace hA := hA.fr hw.size
    replace hF := hF.trans hw
    clear hs hF' hw
    refine seqR_nil ?_
    refine HT.cond x8 h14 (fun c10 => ?_) (fun c10 => ?_)
    · have hr := cnd_t c10 hr
      refine HT.skip ?_
      refine HT.seq ?_
      refine HT.block ?_
      refine HT.seq ?_
      obtain ⟨e11, hr⟩ := ck_some hr
      obtain ⟨x12, q13, hr⟩ := cl_some hr
      refine HT.text (l := ⟨_, true, .raw (.pointer (some ⟨b2_0, 0, none⟩))⟩ :: ⟨_, true, .rep (eSl E_impl_Rule) A p0⟩ :: ⟨_, true, .raw (.int .i64 y5)⟩ :: ⟨_, true, .qtr E_impl_Rule A (gtD p0 y5)⟩ :: ⟨_, true, .rep E_impl_Rule A (gtD p0 y5)⟩ :: ⟨_, true, .raw v1⟩ :: ⟨_, true, .raw (.bool x12)⟩ :: []) (tl := []) (by kernel_rfl) (by kernel_rfl) (by kernel_rfl) ?_ ?_
      · exact
          Obls.cons (Obl.plain rfl rfl fun R' w' hw hs hd => by have a0 : R' 2 = (.pointer (some ⟨b2_0, 0, none⟩)) := (hs 2 rfl).trans h2; exact of_fieldAddr_raw a0 ff_29_0 Try.sizeOf27 (by decide) rfl) <|
          Obls.cons (Obl.plain rfl rfl fun R' w' hw hs hd => by have a0 : R' 17 = (.pointer (some ⟨b2_0, 0, none⟩)) := hd 0 _ _ _ rfl rfl rfl rfl rfl; exact (of_load_box ((hO.fr hw).ok 0 _ rfl).1 a0 fl_impl_RuleSet_0 rfl Try.isAgg27 Try.sizeOf27)) <|
          Obls.cons (Obl.plain rfl rfl fun R' w' hw hs hd => by have a0 : R' 5 = .int .i64 y5 := (hs 5 rfl).trans h5; exact of_move a0) <|
          Obls.cons (Obl.plain rfl rfl fun R' w' hw hs hd => by have a0 : Rep (eSl E_impl_Rule) A w' (R' 18) p0 := hd 0 _ _ _ rfl rfl rfl rfl rfl; have a1 : R' 19 = .int .i64 y5 := hd 1 _ _ _ rfl rfl rfl rfl rfl; exact of_indexAddr a0 a1 Try.underlying27 Try.sizeOf79 e11) <|
          Obls.cons (Obl.plain rfl rfl fun R' w' hw hs hd => by have a0 : QRep E_impl_Rule A w' (R' 20) (gtD p0 y5) := hd 0 _ _ _ rfl rfl rfl rfl rfl; exact (of_load a0.ptr Try.isAgg79 Try.sizeOf79)) <|
          Obls.cons (Obl.plain rfl rfl fun R' w' hw hs hd => by have a0 : R' 1 = v1 := (hs 1 rfl).trans h1; exact of_move a0) <|
          Obls.cons (Obl.plain rfl rfl fun R' w' hw hs hd => by have a0 : Rep E_impl_Rule A w' (R' 21) (gtD p0 y5) := hd 0 _ _ _ rfl rfl rfl rfl rfl; have a1 : R' 22 = v1 := hd 1 _ _ _ rfl rfl rfl rfl rfl; have ra1 := (f_v1.fr hw).eq a1; exact of_call Try.call89 (M_spec_RuleHolds_ok (q13 rfl) (hA.fr hw.size) a0 ra1)) <|
          Obls.nil
      intro R w hw hs hF'
      replace h1 : R 1 = v1 := (hs 1 rfl).trans h1
      replace h2 : R 2 = (.pointer (some ⟨b2_0, 0, none⟩)) := (hs 2 rfl).trans h2
      replace h5 : R 5 = .int .i64 y5 := (hs 5 rfl).trans h5
      have h23 : R 23 = .bool x12 := hF' 6 _ _ rfl rfl rfl
      replace f_v1 := f_v1.fr hw
      replace hO := hO.fr hw
      replace hA := hA.fr hw.size
      replace hF := hF.trans hw
      clear hs hF' hw
      refine seqR_nil ?_
      refine HT.cond x12 h23 (fun c14 => ?_) (fun c14 => ?_)
      · have hr := cnd_t c14 hr
        refine HT.seq ?_
        refine HT.text (l := ⟨_, true, .raw (.int .i64 y5)⟩ :: ⟨_, true, .raw (.int .i64 y5)⟩ :: []) (tl := []) (by kernel_rfl) (by kernel_rfl) (by kernel_rfl) ?_ ?_
        · exact
            Obls.cons (Obl.plain rfl rfl fun R' w' hw hs hd => by have a0 : R' 5 = .int .i64 y5 := (hs 5 rfl).trans h5; exact of_move a0) <|
            Obls.cons (Obl.plain rfl rfl fun R' w' hw hs hd => by have a0 : R' 24 = .int .i64 y5 := hd 0 _ _ _ rfl rfl rfl rfl rfl; exact of_assign a0) <|
            Obls.nil
        intro R w hw hs hF'
        have h4 : R 4 = .int .i64 y5 := hF' 1 _ _ rfl rfl rfl
        replace hO := hO.fr hw
        replace hO : IniOK [] A w := hO.sub [] trivial
        replace hA := hA.fr hw.size
        replace hF := hF.trans hw
        clear hs hF' hw
        refine seqR_nil ?_
        refine HT.ret ?_
        obtain rfl := Option.some.inj hr
        have hr := hr0
        replace hr : some _ = some _ := hr
        obtain rfl := Option.some.inj hr
        exact ⟨.inr rfl, [R 4], ⟨rfl, trivial⟩, h4, hF⟩
      · have hr := cnd_f c14 hr
        refine HT.skip ?_
        obtain ⟨e15, hr⟩ := ck_some hr
        refine HT.text (l := ⟨_, true, .raw (.int .i64 y5)⟩ :: ⟨_, true, .raw (.int .i64 (y5 + (1 : Int)))⟩ :: ⟨_, true, .raw (.int .i64 (y5 + (1 : Int)))⟩ :: []) (tl := []) (by kernel_rfl) (by kernel_rfl) (by kernel_rfl) ?_ ?_
        · exact
            Obls.cons (Obl.plain rfl rfl fun R' w' hw hs hd => by have a0 : R' 5 = .int .i64 y5 := (hs 5 rfl).trans h5; exact of_move a0) <|
            Obls.cons (Obl.plain rfl rfl fun R' w' hw hs hd => by have a0 : R' 15 = .int .i64 y5 := hd 0 _ _ _ rfl rfl rfl rfl rfl; exact of_add a0 rfl e15) <|
            Obls.cons (Obl.plain rfl rfl fun R' w' hw hs hd => by have a0 : R' 16 = .int .i64 (y5 + (1 : Int)) := hd 0 _ _ _ rfl rfl rfl rfl rfl; exact of_assign a0) <|
            Obls.nil
        intro R w hw hs hF'
        replace h1 : R 1 = v1 := (hs 1 rfl).trans h1
        replace h2 : R 2 = (.pointer (some ⟨b2_0, 0, none⟩)) := (hs 2 rfl).trans h2
        have h5 : R 5 = .int .i64 (y5 + (1 : Int)) := hF' 2 _ _ rfl rfl rfl
        replace f_v1 := f_v1.fr hw
        replace hO := hO.fr hw
        replace hA := hA.fr hw.size
        replace hF := hF.trans hw
        clear hs hF' hw
        refine seqR_nil ?_
        exact Exists.intro k (And.intro (Nat.lt_succ_self k) ⟨_, _, hr, hA, hF, hAA, hO, h1, h2, h5, f_v1⟩)
    · have hr := cnd_f c10 hr
      refine HT.exit ?_
      obtain rfl := Option.some.inj hr
      replace hO : IniOK [] A w := hO.sub [] trivial
      exact Exists.intro _ ⟨_, rfl, hA, hF, hAA, hO⟩
  rintro R w ⟨A, s4, rfl, hA, hF, hAA, hO⟩
  have hr := exM_go hr
  refine HT.seq ?_
  refine HT.text (l := ⟨_, true, .raw (.int .i64 (-1 : Int))⟩ :: []) (tl := []) (by kernel_rfl) (by kernel_rfl) (by kernel_rfl) ?_ ?_
  · exact
      Obls.cons (Obl.plain rfl rfl fun R' w' hw hs hd => by exact of_assign rfl) <|
      Obls.nil
  intro R w hw hs hF'
  have h4 : R 4 = .int .i64 (-1 : Int) := hF' 0 _ _ rfl rfl rfl
  replace hO := hO.fr hw
  replace hA := hA.fr hw.size
  replace hF := hF.trans hw
  clear hs hF' hw
  refine seqR_nil ?_
  refine HT.ret ?_
  obtain rfl := Option.some.inj hr
  exact ⟨.inr rfl, [R 4], ⟨rfl, trivial⟩, h4, hF⟩
def M_spec_RulesHold (fu : Nat) (p0 : T_impl_RuleSet) (p1 : List Int) : Option Bool :=
  cl true (M_spec_FirstRule fu p0 p1) fun x2 =>
  some (decide ((0 : Int) ≤ x2))
set_option maxRecDepth 100000 in
set_option maxHeartbeats 4000000 in
theorem M_spec_RulesHold_ok {fu : Nat} {A0 : Av} {p0 : T_impl_RuleSet} {p1 : List Int} {r : Bool} (hr : M_spec_RulesHold fu p0 p1 = some r) {w : World} {v0 : Value} {v1 : Value} (hA : AvOK A0 w) (h0 : Rep E_impl_RuleSet A0 w v0 p0) (h1 : Rep (eSl (eInt .i64)) A0 w v1 p1) :
    Calls Try.prog 31 #[v0, v1] w fun e w' => ∃ v, e = .returned v ∧ (v = .bool r ∧ Fr w w') := by
  unfold M_spec_RulesHold at hr
  obtain ⟨w0, hw0⟩ : ∃ w0, w0 = w := ⟨_, rfl⟩
  have hF : Fr w0 w := hw0 ▸ Fr.refl _
  have hA0 : ∀ b o, A0 b o → b < w0.heap.size := fun b o h => hw0 ▸ hA b o h
  have hA00 : AvOK A0 w0 := hA0
  rw [show Fr w = Fr w0 from hw0 ▸ rfl]
  clear hw0
  obtain ⟨A, hAe⟩ : ∃ A, A = A0 := ⟨_, rfl⟩
  have hAA : ∀ b o, A0 b o → A b o := fun b o h => hAe ▸ h
  replace hA : AvOK A w := hAe ▸ hA
  have hO : IniOK [] A w := IniOK.nil
  refine calls_of_HT2 [.tmp 4] Try.func31 Try.ntmps31 (by decide) rfl rfl (Nat.le_of_ble_eq_true rfl) ?_
  intro R hR
  have f_v0 : Rep E_impl_RuleSet A w v0 p0 := hAe ▸ h0
  replace h0 : R 0 = v0 := hR 0 _ rfl
  have f_v1 : Rep (eSl (eInt .i64)) A w v1 p1 := hAe ▸ h1
  replace h1 : R 1 = v1 := hR 1 _ rfl
  clear hR hAe
  refine HT.seq ?_
  refine HT.textR [] (⟨_, true, [], some (.box w0.heap.size 29 E_impl_RuleSet p0), true, fun A => .any⟩ :: ⟨_, true, [], none, true, fun A => .raw (.bool false)⟩ :: []) (by kernel_rfl) (by kernel_rfl) (Wf.mk' (by kernel_rfl) (UAll.cons ust_any (UAll.cons ust_raw (UAll.nil))) (by kernel_rfl) (by kernel_rfl)) hO hA ?_ ?_
  · exact
      OblsR.cons (OblR.made _ rfl rfl rfl rfl fun A' R' w' ho hd => by have a0 : R' 0 = v0 := (ho.old 0 rfl).trans h0; have ra0 := (f_v0.stp ho.stp).eq a0; exact made_box ra0 (Nat.le_trans hF.size ho.ch.size)) <|
      OblsR.cons (OblR.plain rfl rfl rfl rfl fun A' R' w' ho hd => by exact of_assign rfl) <|
      OblsR.nil
  intro done ρ σ A R w hdn hI
  replace h1 : R 1 = v1 := (hI.reg rfl).trans h1
  obtain ⟨b2_0, e_b2_0⟩ := hI.boxv hdn 0 rfl rfl
  have h2 : R 2 = (.pointer (some ⟨b2_0, 0, none⟩)) := (hI.opvR hdn 0 0 rfl rfl rfl rfl rfl).symm.trans e_b2_0
  replace f_v1 := f_v1.stp hI.stp
  replace hAA := hI.low' hAA hA0 (hO.ge (trivial))
  replace hF : Fr w0 w := hF.tr hI.ch (hO.ge (trivial))
  replace hO : IniOK [ob (.pointer (some ⟨b2_0, 0, none⟩)) (.box w0.heap.size 29 E_impl_RuleSet p0)] A w := hI.left hdn [(0, ob (.pointer (some ⟨b2_0, 0, none⟩)) (.box w0.heap.size 29 E_impl_RuleSet p0))] ⟨rfl, rfl, e_b2_0, rfl, rfl, trivial⟩
  replace hA := hI.avok
  clear hI
  refine HT.seq ?_
  obtain ⟨x2, q3, hr⟩ := cl_some hr
  refine HT.text (l := ⟨_, true, .rep E_impl_RuleSet A p0⟩ :: ⟨_, true, .raw v1⟩ :: ⟨_, true, .raw (.int .i64 x2)⟩ :: ⟨_, true, .raw (.bool (decide ((0 : Int) ≤ x2)))⟩ :: ⟨_, true, .raw (.bool (decide ((0 : Int) ≤ x2)))⟩ :: []) (tl := []) (by kernel_rfl) (by kernel_rfl) (by kernel_rfl) ?_ ?_
  · exact
      Obls.cons (Obl.plain rfl rfl fun R' w' hw hs hd => by have a0 : R' 2 = (.pointer (some ⟨b2_0, 0, none⟩)) := (hs 2 rfl).trans h2; exact (of_load_box ((hO.fr hw).ok 0 _ rfl).1 a0 (Fld.id _) rfl Try.isAgg29 Try.sizeOf29)) <|
      Obls.cons (Obl.plain rfl rfl fun R' w' hw hs hd => by have a0 : R' 1 = v1 := (hs 1 rfl).trans h1; exact of_move a0) <|
      Obls.cons (Obl.plain rfl rfl fun R' w' hw hs hd => by have a0 : Rep E_impl_RuleSet A w' (R' 5) p0 := hd 0 _ _ _ rfl rfl rfl rfl rfl; have a1 : R' 6 = v1 := hd 1 _ _ _ rfl rfl rfl rfl rfl; have ra1 := (f_v1.fr hw).eq a1; exact of_call Try.call57 (M_spec_FirstRule_ok (q3 rfl) (hA.fr hw.size) a0 ra1)) <|
      Obls.cons (Obl.plain rfl rfl fun R' w' hw hs hd => by have a0 : R' 7 = .int .i64 x2 := hd 0 _ _ _ rfl rfl rfl rfl rfl; exact of_geq a0 rfl) <|
      Obls.cons (Obl.plain rfl rfl fun R' w' hw hs hd => by have a0 : R' 8 = .bool (decide ((0 : Int) ≤ x2)) := hd 0 _ _ _ rfl rfl rfl rfl rfl; exact of_assign a0) <|
      Obls.nil
  intro R w hw hs hF'
  have h4 : R 4 = .bool (decide ((0 : Int) ≤ x2)) := hF' 4 _ _ rfl rfl rfl
  replace hO := hO.fr hw
  replace hO : IniOK [] A w := hO.sub [] trivial
  replace hA := hA.fr hw.size
  replace hF := hF.trans hw
  clear hs hF' hw
  refine seqR_nil ?_
  refine HT.ret ?_
  obtain rfl := Option.some.inj hr
  exact ⟨.inr rfl, [R 4], ⟨rfl, trivial⟩, h4, hF⟩
def M_spec_MonotoneViolation_L2 (fu : Nat) (p0 : T_impl_RuleSet) (x7 : List (List Int)) (y13 : Int) (y23 : Int) (x25 : List Int) : Nat → Int → Option (Ex ((List Int) × (List Int) × Bool) Unit)
  | 0, _ => none
  | k + 1, y31 =>
    ck (i64B (y31 + (1 : Int))) <|
    bif (decide ((y31 + (1 : Int)) < (x25.length : Int))) then (
      ck (inR y31 x25.length) <|
      ck (inR y13 x7.length) <|
      ck (inR y23 (gtD x7 y13).length) <|
      bif ((gtD x25 y31) != (gtD (gtD x7 y13) y23)) then (
        ck (i64B (y31 + (1 : Int))) <|
        M_spec_MonotoneViolation_L2 fu p0 x7 y13 y23 x25 k (y31 + (1 : Int))
      ) else (
        ck (inR y13 x7.length) <|
        ck (lenOK (([] : List Int).length + (gtD x7 y13).length)) <|
        ck (i64B (y31 + (1 : Int))) <|
        ck (inR (y31 + (1 : Int)) x25.length) <|
        ck (inR y23 (([] : List Int) ++ (gtD x7 y13)).length) <|
        cl true (M_spec_RulesHold fu p0 ((([] : List Int) ++ (gtD x7 y13)).set y23.toNat (gtD x25 (y31 + (1 : Int))))) fun x49 =>
        bif (!x49) then (
          ck (inR y13 x7.length) <|
          some (Ex.ret ((gtD x7 y13), ((([] : List Int) ++ (gtD x7 y13)).set y23.toNat (gtD x25 (y31 + (1 : Int)))), true))
        ) else (
          ck (i64B (y31 + (1 : Int))) <|
          M_spec_MonotoneViolation_L2 fu p0 x7 y13 y23 x25 k (y31 + (1 : Int))
        )
      )
    ) else (
      some (Ex.go ())
    )
def M_spec_MonotoneViolation_L1 (fu : Nat) (p0 : T_impl_RuleSet) (x7 : List (List Int)) (y13 : Int) : Nat → Int → Option (Ex ((List Int) × (List Int) × Bool) Unit)
  | 0, _ => none
  | k + 1, y23 =>
    bif (decide (y23 < (6 : Int))) then (
      cl true (M_spec_l14Levels fu p0 y23) fun x25 =>
      cl true (M_spec_MonotoneViolation_L2 fu p0 x7 y13 y23 x25 fu (0 : Int)) fun rl28 =>
      exM rl28 (fun r => some (Ex.ret r)) fun s30 =>
      ck (i64B (y23 + (1 : Int))) <|
      M_spec_MonotoneViolation_L1 fu p0 x7 y13 k (y23 + (1 : Int))
    ) else (
      some (Ex.go ())
    )
def M_spec_MonotoneViolation_L0 (fu : Nat) (p0 : T_impl_RuleSet) (x7 : List (List Int)) : Nat → Int → Option (Ex ((List Int) × (List Int) × Bool) Unit)
  | 0, _ => none
  | k + 1, y13 =>
    bif (decide (y13 < (x7.length : Int))) then (
      ck (inR y13 x7.length) <|
      cl true (M_spec_RulesHold fu p0 (gtD x7 y13)) fun x16 =>
      bif (!x16) then (
        ck (i64B (y13 + (1 : Int))) <|
        M_spec_MonotoneViolation_L0 fu p0 x7 k (y13 + (1 : Int))
      ) else (
        cl true (M_spec_MonotoneViolation_L1 fu p0 x7 y13 fu (0 : Int)) fun rl20 =>
        exM rl20 (fun r => some (Ex.ret r)) fun s22 =>
        ck (i64B (y13 + (1 : Int))) <|
        M_spec_MonotoneViolation_L0 fu p0 x7 k (y13 + (1 : Int))
      )
    ) else (
      some (Ex.go ())
    )
def M_spec_MonotoneViolation (fu : Nat) (p0 : T_impl_RuleSet) : Option ((List Int) × (List Int) × Bool) :=
  cl true (M_spec_IsValidRules fu p0) fun x2 =>
  bif (!x2) then (
    some (([] : List Int), ([] : List Int), false)
  ) else (
    cl true (M_spec_l14Grid fu p0) fun x7 =>
    cl true (M_spec_MonotoneViolation_L0 fu p0 x7 fu (0 : Int)) fun rl10 =>
    exM rl10 (fun r => some r) fun s12 =>
    some (([] : List Int), ([] : List Int), false)
  )
set_option maxRecDepth 100000 in
set_option maxHeartbeats 4000000 in
theorem M_spec_MonotoneViolation_ok {fu : Nat} {A0 : Av} {p0 : T_impl_RuleSet} {r : (List Int) × (List Int) × Bool} (hr : M_spec_MonotoneViolation fu p0 = some r) {w : World} {v0 : Value} (hA : AvOK A0 w) (h0 : Rep E_impl_RuleSet A0 w v0 p0) :
    Calls Try.prog 12 #[v0] w fun e w' => ∃ v, e = .returned v ∧ ((∃ a b c, v = .tuple #[a, b, c] ∧ Rep (eSl (eInt .i64)) A0 w' a r.1 ∧ Rep (eSl (eInt .i64)) A0 w' b r.2.1 ∧ c = .bool r.2.2) ∧ Fr w w') := by
  unfold M_spec_MonotoneViolation at hr
  obtain ⟨w0, hw0⟩ : ∃ w0, w0 = w := ⟨_, rfl⟩
  have hF : Fr w0 w := hw0 ▸ Fr.refl _
  have hA0 : ∀ b o, A0 b o → b < w0.heap.size := fun b o h => hw0 ▸ hA b o h
  have hA00 : AvOK A0 w0 := hA0
  rw [show Fr w = Fr w0 from hw0 ▸ rfl]
  clear hw0
  obtain ⟨A, hAe⟩ : ∃ A, A = A0 := ⟨_, rfl⟩
  have hAA : ∀ b o, A0 b o → A b o := fun b o h => hAe ▸ h
  replace hA : AvOK A w := hAe ▸ hA
  have hO : IniOK [] A w := IniOK.nil
  refine calls_of_HT2 [.tmp 2, .tmp 3, .tmp 4] Try.func12 Try.ntmps12 (by decide) rfl rfl (Nat.le_of_ble_eq_true rfl) ?_
  intro R hR
  have f_v0 : Rep E_impl_RuleSet A w v0 p0 := hAe ▸ h0
  replace h0 : R 0 = v0 := hR 0 _ rfl
  clear hR hAe
  refine HT.seq ?_
  refine HT.textR [] (⟨_, true, [], some (.box w0.heap.size 29 E_impl_RuleSet p0), true, fun A => .any⟩ :: ⟨_, true, [], none, true, fun A => .rep (eSl (eInt .i64)) A ([] : List Int)⟩ :: ⟨_, true, [], none, true, fun A => .rep (eSl (eInt .i64)) A ([] : List Int)⟩ :: ⟨_, true, [], none, true, fun A => .raw (.bool false)⟩ :: []) (by kernel_rfl) (by kernel_rfl) (Wf.mk' (by kernel_rfl) (UAll.cons ust_any (UAll.cons ust_rep (UAll.cons ust_rep (UAll.cons ust_raw (UAll.nil))))) (by kernel_rfl) (by kernel_rfl)) hO hA ?_ ?_
  · exact
      OblsR.cons (OblR.made _ rfl rfl rfl rfl fun A' R' w' ho hd => by have a0 : R' 0 = v0 := (ho.old 0 rfl).trans h0; have ra0 := (f_v0.stp ho.stp).eq a0; exact made_box ra0 (Nat.le_trans hF.size ho.ch.size)) <|
      OblsR.cons (OblR.plain rfl rfl rfl rfl fun A' R' w' ho hd => by exact of_assign rep_nil) <|
      OblsR.cons (OblR.plain rfl rfl rfl rfl fun A' R' w' ho hd => by exact of_assign rep_nil) <|
      OblsR.cons (OblR.plain rfl rfl rfl rfl fun A' R' w' ho hd => by exact of_assign rfl) <|
      OblsR.nil
  intro done ρ σ A R w hdn hI
  obtain ⟨b1_0, e_b1_0⟩ := hI.boxv hdn 0 rfl rfl
  have h1 : R 1 = (.pointer (some ⟨b1_0, 0, none⟩)) := (hI.opvR hdn 0 0 rfl rfl rfl rfl rfl).symm.trans e_b1_0
  replace hAA := hI.low' hAA hA0 (hO.ge (trivial))
  replace hF : Fr w0 w := hF.tr hI.ch (hO.ge (trivial))
  replace hO : IniOK [ob (.pointer (some ⟨b1_0, 0, none⟩)) (.box w0.heap.size 29 E_impl_RuleSet p0)] A w := hI.left hdn [(0, ob (.pointer (some ⟨b1_0, 0, none⟩)) (.box w0.heap.size 29 E_impl_RuleSet p0))] ⟨rfl, rfl, e_b1_0, rfl, rfl, trivial⟩
  replace hA := hI.avok
  clear hI
  refine HT.seq ?_
  refine HT.seq ?_
  obtain ⟨x2, q3, hr⟩ := cl_some hr
  refine HT.text (l := ⟨_, true, .rep E_impl_RuleSet A p0⟩ :: ⟨_, true, .raw (.bool x2)⟩ :: ⟨_, true, .raw (.bool (!x2))⟩ :: []) (tl := []) (by kernel_rfl) (by kernel_rfl) (by kernel_rfl) ?_ ?_
  · exact
      Obls.cons (Obl.plain rfl rfl fun R' w' hw hs hd => by have a0 : R' 1 = (.pointer (some ⟨b1_0, 0, none⟩)) := (hs 1 rfl).trans h1; exact (of_load_box ((hO.fr hw).ok 0 _ rfl).1 a0 (Fld.id _) rfl Try.isAgg29 Try.sizeOf29)) <|
      Obls.cons (Obl.plain rfl rfl fun R' w' hw hs hd => by have a0 : Rep E_impl_RuleSet A w' (R' 11) p0 := hd 0 _ _ _ rfl rfl rfl rfl rfl; exact of_call Try.call26 (M_spec_IsValidRules_ok (q3 rfl) (hA.fr hw.size) a0)) <|
      Obls.cons (Obl.plain rfl rfl fun R' w' hw hs hd => by have a0 : R' 12 = .bool x2 := hd 0 _ _ _ rfl rfl rfl rfl rfl; exact of_not a0) <|
      Obls.nil
  intro R w hw hs hF'
  replace h1 : R 1 = (.pointer (some ⟨b1_0, 0, none⟩)) := (hs 1 rfl).trans h1
  have h13 : R 13 = .bool (!x2) := hF' 2 _ _ rfl rfl rfl
  replace hO := hO.fr hw
  replace hA := hA.fr hw.size
  replace hF := hF.trans hw
  clear hs hF' hw
  refine seqR_nil ?_
  refine HT.cond (!x2) h13 (fun c4 => ?_) (fun c4 => ?_)
  · have hr := cnd_t c4 hr
    refine HT.seq ?_
    refine HT.text (l := ⟨_, true, .rep (eSl (eInt .i64)) A ([] : List Int)⟩ :: ⟨_, true, .rep (eSl (eInt .i64)) A ([] : List Int)⟩ :: ⟨_, true, .rep (eSl (eInt .i64)) A ([] : List Int)⟩ :: ⟨_, true, .rep (eSl (eInt .i64)) A ([] : List Int)⟩ :: ⟨_, true, .raw (.bool false)⟩ :: []) (tl := []) (by kernel_rfl) (by kernel_rfl) (by kernel_rfl) ?_ ?_
    · exact
        Obls.cons (Obl.plain rfl rfl fun R' w' hw hs hd => by exact of_build [] (E := eInt .i64) trivial Try.underlying33 Try.sizeOf3 Try.zeroValue3 rfl rfl rfl (hA.fr hw.size)) <|
        Obls.cons (Obl.plain rfl rfl fun R' w' hw hs hd => by exact of_build [] (E := eInt .i64) trivial Try.underlying33 Try.sizeOf3 Try.zeroValue3 rfl rfl rfl (hA.fr hw.size)) <|
        Obls.cons (Obl.plain rfl rfl fun R' w' hw hs hd => by have a0 : Rep (eSl (eInt .i64)) A w' (R' 14) ([] : List Int) := hd 0 _ _ _ rfl rfl rfl rfl rfl; exact of_assign a0) <|
        Obls.cons (Obl.plain rfl rfl fun R' w' hw hs hd => by have a0 : Rep (eSl (eInt .i64)) A w' (R' 15) ([] : List Int) := hd 0 _ _ _ rfl rfl rfl rfl rfl; exact of_assign a0) <|
        Obls.cons (Obl.plain rfl rfl fun R' w' hw hs hd => by exact of_assign rfl) <|
        Obls.nil
    intro R w hw hs hF'
    obtain ⟨u5, h2, f_u5⟩ : ∃ u, R 2 = u ∧ Rep (eSl (eInt .i64)) A w u ([] : List Int) := ⟨_, rfl, hF' 2 _ _ rfl rfl rfl⟩
    obtain ⟨u6, h3, f_u6⟩ : ∃ u, R 3 = u ∧ Rep (eSl (eInt .i64)) A w u ([] : List Int) := ⟨_, rfl, hF' 3 _ _ rfl rfl rfl⟩
    have h4 : R 4 = .bool false := hF' 4 _ _ rfl rfl rfl
    replace hO := hO.fr hw
    replace hO : IniOK [] A w := hO.sub [] trivial
    replace hA := hA.fr hw.size
    replace hF := hF.trans hw
    clear hs hF' hw
    refine seqR_nil ?_
    refine HT.ret ?_
    obtain rfl := Option.some.inj hr
    exact ⟨.inr rfl, [R 2, R 3, R 4], ⟨rfl, ⟨rfl, ⟨rfl, trivial⟩⟩⟩, ⟨_, _, _, rfl, (f_u5.eq h2).down hAA, (f_u6.eq h3).down hAA, h4⟩, hF⟩
  · have hr := cnd_f c4 hr
    refine HT.skip ?_
    refine HT.seq ?_
    obtain ⟨x7, q8, hr⟩ := cl_some hr
    refine HT.text (l := ⟨_, true, .rep E_impl_RuleSet A p0⟩ :: ⟨_, true, .rep (eSl (eSl (eInt .i64))) A x7⟩ :: ⟨_, true, .rep (eSl (eSl (eInt .i64))) A x7⟩ :: []) (tl := []) (by kernel_rfl) (by kernel_rfl) (by kernel_rfl) ?_ ?_
    · exact
        Obls.cons (Obl.plain rfl rfl fun R' w' hw hs hd => by have a0 : R' 1 = (.pointer (some ⟨b1_0, 0, none⟩)) := (hs 1 rfl).trans h1; exact (of_load_box ((hO.fr hw).ok 0 _ rfl).1 a0 (Fld.id _) rfl Try.isAgg29 Try.sizeOf29)) <|
        Obls.cons (Obl.plain rfl rfl fun R' w' hw hs hd => by have a0 : Rep E_impl_RuleSet A w' (R' 16) p0 := hd 0 _ _ _ rfl rfl rfl rfl rfl; exact of_call Try.call36 (M_spec_l14Grid_okR (q8 rfl) (hA.fr hw.size) a0)) <|
        Obls.cons (Obl.plain rfl rfl fun R' w' hw hs hd => by have a0 : Rep (eSl (eSl (eInt .i64))) A w' (R' 17) x7 := hd 0 _ _ _ rfl rfl rfl rfl rfl; exact of_assign a0) <|
        Obls.nil
    intro R w hw hs hF'
    replace h1 : R 1 = (.pointer (some ⟨b1_0, 0, none⟩)) := (hs 1 rfl).trans h1
    obtain ⟨u9, h5, f_u9⟩ : ∃ u, R 5 = u ∧ Rep (eSl (eSl (eInt .i64))) A w u x7 := ⟨_, rfl, hF' 2 _ _ rfl rfl rfl⟩
    replace hO := hO.fr hw
    replace hA := hA.fr hw.size
    replace hF := hF.trans hw
    clear hs hF' hw
    refine seqR_nil ?_
    refine HT.seq ?_
    refine HT.seq ?_
    refine HT.text (l := ⟨_, true, .raw (.int .i64 (0 : Int))⟩ :: []) (tl := []) (by kernel_rfl) (by kernel_rfl) (by kernel_rfl) ?_ ?_
    · exact
        Obls.cons (Obl.plain rfl rfl fun R' w' hw hs hd => by exact of_assign rfl) <|
        Obls.nil
    intro R w hw hs hF'
    replace h1 : R 1 = (.pointer (some ⟨b1_0, 0, none⟩)) := (hs 1 rfl).trans h1
    replace h5 : R 5 = u9 := (hs 5 rfl).trans h5
    have h6 : R 6 = .int .i64 (0 : Int) := hF' 0 _ _ rfl rfl rfl
    replace f_u9 := f_u9.fr hw
    replace hO := hO.fr hw
    replace hA := hA.fr hw.size
    replace hF := hF.trans hw
    clear hs hF' hw
    refine seqR_nil ?_
    obtain ⟨rl10, q11, hr⟩ := cl_some hr
    replace q11 := q11 rfl
    refine HT.cut0 (fun R w => ∃ A : Av, ∃ (s12 : Unit), rl10 = Ex.go s12 ∧ AvOK A w ∧ Fr w0 w ∧ (∀ b o, A0 b o → A b o) ∧ IniOK [] A w) ?_ ?_
    · refine HT.block ?_
      refine HT.loop (fun k R w => ∃ A : Av, ∃ (y13 : Int), M_spec_MonotoneViolation_L0 fu p0 x7 k y13 = some rl10 ∧ AvOK A w ∧ Fr w0 w ∧ (∀ b o, A0 b o → A b o) ∧ IniOK [ob (.pointer (some ⟨b1_0, 0, none⟩)) (.box w0.heap.size 29 E_impl_RuleSet p0)] A w ∧ R 1 = (.pointer (some ⟨b1_0, 0, none⟩)) ∧ R 5 = u9 ∧ R 6 = .int .i64 y13 ∧ Rep (eSl (eSl (eInt .i64))) A w u9 x7) fu ⟨_, _, q11, hA, hF, hAA, hO, h1, h5, h6, f_u9⟩ ?_
      have hr0 := hr; clear hr q11
      rintro k R w ⟨A, y13, hr, hA, hF, hAA, hO, h1, h5, h6, f_u9⟩
      rcases k with _ | k
      · cases (show none = some _ from hr)
      rw [M_spec_MonotoneViolation_L0] at hr
      refine HT.seq ?_
      refine HT.seq ?_
      refine HT.text (l := ⟨_, true, .raw (.int .i64 y13)⟩ :: ⟨_, true, .raw u9⟩ :: ⟨_, true, .raw (.int .i64 (x7.length : Int))⟩ :: ⟨_, true, .raw (.bool (decide (y13 < (x7.length : Int))))⟩ :: []) (tl := []) (by kernel_rfl) (by kernel_rfl) (by kernel_rfl) ?_ ?_
      · exact
          Obls.cons (Obl.plain rfl rfl fun R' w' hw hs hd => by have a0 : R' 6 = .int .i64 y13 := (hs 6 rfl).trans h6; exact of_move a0) <|
          Obls.cons (Obl.plain rfl rfl fun R' w' hw hs hd => by have a0 : R' 5 = u9 := (hs 5 rfl).trans h5; exact of_move a0) <|
          Obls.cons (Obl.plain rfl rfl fun R' w' hw hs hd => by have a0 : R' 19 = u9 := hd 0 _ _ _ rfl rfl rfl rfl rfl; have ra0 := (f_u9.fr hw).eq a0; exact of_len_sl (aT := #[]) ra0 Try.underlying55) <|
          Obls.cons (Obl.plain rfl rfl fun R' w' hw hs hd => by have a0 : R' 18 = .int .i64 y13 := hd 0 _ _ _ rfl rfl rfl rfl rfl; have a1 : R' 20 = .int .i64 (x7.length : Int) := hd 1 _ _ _ rfl rfl rfl rfl rfl; exact of_lss a0 a1) <|
          Obls.nil
      intro R w hw hs hF'
      replace h1 : R 1 = (.pointer (some ⟨b1_0, 0, none⟩)) := (hs 1 rfl).trans h1
      replace h5 : R 5 = u9 := (hs 5 rfl).trans h5
      replace h6 : R 6 = .int .i64 y13 := (hs 6 rfl).trans h6
      have h21 : R 21 = .bool (decide (y13 < (x7.length : Int))) := hF' 3 _ _ rfl rfl rfl
      replace f_u9 := f_u9.fr hw
      replace hO := hO.fr hw
      replace hA := hA.fr hw.size
      replace hF := hF.trans hw
      clear hs hF' hw
      refine seqR_nil ?_
      refine HT.cond (decide (y13 < (x7.length : Int))) h21 (fun c14 => ?_) (fun c14 => ?_)
      · have hr := cnd_t c14 hr
        refine HT.skip ?_
        refine HT.seq ?_
        refine HT.block ?_
        refine HT.seq ?_
        refine HT.seq ?_
        obtain ⟨e15, hr⟩ := ck_some hr
        obtain ⟨x16, q17, hr⟩ := cl_some hr
        refine HT.draw (by kernel_rfl) (l := ⟨_, true, .rep E_impl_RuleSet A p0⟩ :: ⟨_, true, .raw u9⟩ :: ⟨_, true, .raw (.int .i64 y13)⟩ :: ⟨_, true, .qtr (eSl (eInt .i64)) A (gtD x7 y13)⟩ :: ⟨_, true, .rep (eSl (eInt .i64)) A (gtD x7 y13)⟩ :: ⟨_, true, .raw (.bool x16)⟩ :: ⟨_, true, .raw (.bool (!x16))⟩ :: []) (tl := []) (by kernel_rfl) (by kernel_rfl) (by kernel_rfl) (by kernel_rfl) ?_ ?_
        · exact
            Obls.cons (Obl.plain rfl rfl fun R' w' hw hs hd => by have a0 : R' 1 = (.pointer (some ⟨b1_0, 0, none⟩)) := (hs 1 rfl).trans h1; exact (of_load_box ((hO.fr hw).ok 0 _ rfl).1 a0 (Fld.id _) rfl Try.isAgg29 Try.sizeOf29)) <|
            Obls.cons (Obl.plain rfl rfl fun R' w' hw hs hd => by have a0 : R' 5 = u9 := (hs 5 rfl).trans h5; exact of_move a0) <|
            Obls.cons (Obl.plain rfl rfl fun R' w' hw hs hd => by have a0 : R' 6 = .int .i64 y13 := (hs 6 rfl).trans h6; exact of_move a0) <|
            Obls.cons (Obl.plain rfl rfl fun R' w' hw hs hd => by have a0 : R' 25 = u9 := hd 0 _ _ _ rfl rfl rfl rfl rfl; have a1 : R' 26 = .int .i64 y13 := hd 1 _ _ _ rfl rfl rfl rfl rfl; have ra0 := (f_u9.fr hw).eq a0; exact of_indexAddr ra0 a1 Try.underlying55 Try.sizeOf33 e15) <|
            Obls.cons (Obl.plain rfl rfl fun R' w' hw hs hd => by have a0 : QRep (eSl (eInt .i64)) A w' (R' 27) (gtD x7 y13) := hd 0 _ _ _ rfl rfl rfl rfl rfl; exact (of_load a0.ptr Try.isAgg33 Try.sizeOf33)) <|
            Obls.cons (Obl.plain rfl rfl fun R' w' hw hs hd => by have a0 : Rep E_impl_RuleSet A w' (R' 24) p0 := hd 0 _ _ _ rfl rfl rfl rfl rfl; have a1 : Rep (eSl (eInt .i64)) A w' (R' 28) (gtD x7 y13) := hd 1 _ _ _ rfl rfl rfl rfl rfl; exact of_call Try.call31 (M_spec_RulesHold_ok (q17 rfl) (hA.fr hw.size) a0 a1)) <|
            Obls.cons (Obl.plain rfl rfl fun R' w' hw hs hd => by have a0 : R' 29 = .bool x16 := hd 0 _ _ _ rfl rfl rfl rfl rfl; exact of_not a0) <|
            Obls.nil
        intro R w hw hs hF'
        replace h1 : R 1 = (.pointer (some ⟨b1_0, 0, none⟩)) := (hs 1 rfl).trans h1
        replace h5 : R 5 = u9 := (hs 5 rfl).trans h5
        replace h6 : R 6 = .int .i64 y13 := (hs 6 rfl).trans h6
        have h30 : R 30 = .bool (!x16) := hF' 6 _ _ rfl rfl rfl
        replace f_u9 := f_u9.fr hw
        replace hO := hO.fr hw
        replace hA := hA.fr hw.size
        replace hF := hF.trans hw
        clear hs hF' hw
        refine seqR_nil ?_
        refine HT.cond (!x16) h30 (fun c18 => ?_) (fun c18 => ?_)
        · have hr := cnd_t c18 hr
          refine HT.exit ?_
          obtain ⟨e19, hr⟩ := ck_some hr
          refine HT.text (l := ⟨_, true, .raw (.int .i64 y13)⟩ :: ⟨_, true, .raw (.int .i64 (y13 + (1 : Int)))⟩ :: ⟨_, true, .raw (.int .i64 (y13 + (1 : Int)))⟩ :: []) (tl := []) (by kernel_rfl) (by kernel_rfl) (by kernel_rfl) ?_ ?_
          · exact
              Obls.cons (Obl.plain rfl rfl fun R' w' hw hs hd => by have a0 : R' 6 = .int .i64 y13 := (hs 6 rfl).trans h6; exact of_move a0) <|
              Obls.cons (Obl.plain rfl rfl fun R' w' hw hs hd => by have a0 : R' 22 = .int .i64 y13 := hd 0 _ _ _ rfl rfl rfl rfl rfl; exact of_add a0 rfl e19) <|
              Obls.cons (Obl.plain rfl rfl fun R' w' hw hs hd => by have a0 : R' 23 = .int .i64 (y13 + (1 : Int)) := hd 0 _ _ _ rfl rfl rfl rfl rfl; exact of_assign a0) <|
              Obls.nil
          intro R w hw hs hF'
          replace h1 : R 1 = (.pointer (some ⟨b1_0, 0, none⟩)) := (hs 1 rfl).trans h1
          replace h5 : R 5 = u9 := (hs 5 rfl).trans h5
          have h6 : R 6 = .int .i64 (y13 + (1 : Int)) := hF' 2 _ _ rfl rfl rfl
          replace f_u9 := f_u9.fr hw
          replace hO := hO.fr hw
          replace hA := hA.fr hw.size
          replace hF := hF.trans hw
          clear hs hF' hw
          refine seqR_nil ?_
          exact Exists.intro k (And.intro (Nat.lt_succ_self k) ⟨_, _, hr, hA, hF, hAA, hO, h1, h5, h6, f_u9⟩)
        · have hr := cnd_f c18 hr
          refine HT.skip ?_
          refine HT.seq ?_
          refine HT.text (l := ⟨_, true, .raw (.int .i64 (0 : Int))⟩ :: []) (tl := []) (by kernel_rfl) (by kernel_rfl) (by kernel_rfl) ?_ ?_
          · exact
              Obls.cons (Obl.plain rfl rfl fun R' w' hw hs hd => by exact of_assign rfl) <|
              Obls.nil
          intro R w hw hs hF'
          replace h1 : R 1 = (.pointer (some ⟨b1_0, 0, none⟩)) := (hs 1 rfl).trans h1
          replace h5 : R 5 = u9 := (hs 5 rfl).trans h5
          replace h6 : R 6 = .int .i64 y13 := (hs 6 rfl).trans h6
          have h7 : R 7 = .int .i64 (0 : Int) := hF' 0 _ _ rfl rfl rfl
          replace f_u9 := f_u9.fr hw
          replace hO := hO.fr hw
          replace hA := hA.fr hw.size
          replace hF := hF.trans hw
          clear hs hF' hw
          refine seqR_nil ?_
          obtain ⟨rl20, q21, hr⟩ := cl_some hr
          replace q21 := q21 rfl
          refine HT.cut0 (fun R w => ∃ A : Av, ∃ (s22 : Unit), rl20 = Ex.go s22 ∧ AvOK A w ∧ Fr w0 w ∧ (∀ b o, A0 b o → A b o) ∧ IniOK [ob (.pointer (some ⟨b1_0, 0, none⟩)) (.box w0.heap.size 29 E_impl_RuleSet p0)] A w ∧ R 1 = (.pointer (some ⟨b1_0, 0, none⟩)) ∧ R 5 = u9 ∧ R 6 = .int .i64 y13 ∧ Rep (eSl (eSl (eInt .i64))) A w u9 x7) ?_ ?_
          · refine HT.block ?_
            refine HT.loop (fun k R w => ∃ A : Av, ∃ (y23 : Int), M_spec_MonotoneViolation_L1 fu p0 x7 y13 k y23 = some rl20 ∧ AvOK A w ∧ Fr w0 w ∧ (∀ b o, A0 b o → A b o) ∧ IniOK [ob (.pointer (some ⟨b1_0, 0, none⟩)) (.box w0.heap.size 29 E_impl_RuleSet p0)] A w ∧ R 1 = (.pointer (some ⟨b1_0, 0, none⟩)) ∧ R 5 = u9 ∧ R 6 = .int .i64 y13 ∧ R 7 = .int .i64 y23 ∧ Rep (eSl (eSl (eInt .i64))) A w u9 x7) fu ⟨_, _, q21, hA, hF, hAA, hO, h1, h5, h6, h7, f_u9⟩ ?_
            have hr1 := hr; clear hr q21
            rintro k R w ⟨A, y23, hr, hA, hF, hAA, hO, h1, h5, h6, h7, f_u9⟩
            rcases k with _ | k
            · cases (show none = some _ from hr)
            rw [M_spec_MonotoneViolation_L1] at hr
            refine HT.seq ?_
            refine HT.seq ?_
            refine HT.text (l := ⟨_, true, .raw (.int .i64 y23)⟩ :: ⟨_, true, .raw (.bool (decide (y23 < (6 : Int))))⟩ :: []) (tl := []) (by kernel_rfl) (by kernel_rfl) (by kernel_rfl) ?_ ?_
            · exact
                Obls.cons (Obl.plain rfl rfl fun R' w' hw hs hd => by have a0 : R' 7 = .int .i64 y23 := (hs 7 rfl).trans h7; exact of_move a0) <|
                Obls.cons (Obl.plain rfl rfl fun R' w' hw hs hd => by have a0 : R' 31 = .int .i64 y23 := hd 0 _ _ _ rfl rfl rfl rfl rfl; exact of_lss a0 rfl) <|
                Obls.nil
            intro R w hw hs hF'
            replace h1 : R 1 = (.pointer (some ⟨b1_0, 0, none⟩)) := (hs 1 rfl).trans h1
            replace h5 : R 5 = u9 := (hs 5 rfl).trans h5
            replace h6 : R 6 = .int .i64 y13 := (hs 6 rfl).trans h6
            replace h7 : R 7 = .int .i64 y23 := (hs 7 rfl).trans h7
            have h32 : R 32 = .bool (decide (y23 < (6 : Int))) := hF' 1 _ _ rfl rfl rfl
            replace f_u9 := f_u9.fr hw
            replace hO := hO.fr hw
            replace hA := hA.fr hw.size
            replace hF := hF.trans hw
            clear hs hF' hw
            refine seqR_nil ?_
            refine HT.cond (decide (y23 < (6 : Int))) h32 (fun c24 => ?_) (fun c24 => ?_)
            · have hr := cnd_t c24 hr
              refine HT.skip ?_
              refine HT.seq ?_
              refine HT.block ?_
              refine HT.seq ?_
              obtain ⟨x25, q26, hr⟩ := cl_some hr
              refine HT.text (l := ⟨_, true, .rep E_impl_RuleSet A p0⟩ :: ⟨_, true, .raw (.int .i64 y23)⟩ :: ⟨_, true, .rep (eSl (eInt .i64)) A x25⟩ :: ⟨_, true, .rep (eSl (eInt .i64)) A x25⟩ :: []) (tl := []) (by kernel_rfl) (by kernel_rfl) (by kernel_rfl) ?_ ?_
              · exact
                  Obls.cons (Obl.plain rfl rfl fun R' w' hw hs hd => by have a0 : R' 1 = (.pointer (some ⟨b1_0, 0, none⟩)) := (hs 1 rfl).trans h1; exact (of_load_box ((hO.fr hw).ok 0 _ rfl).1 a0 (Fld.id _) rfl Try.isAgg29 Try.sizeOf29)) <|
                  Obls.cons (Obl.plain rfl rfl fun R' w' hw hs hd => by have a0 : R' 7 = .int .i64 y23 := (hs 7 rfl).trans h7; exact of_move a0) <|
                  Obls.cons (Obl.plain rfl rfl fun R' w' hw hs hd => by have a0 : Rep E_impl_RuleSet A w' (R' 35) p0 := hd 0 _ _ _ rfl rfl rfl rfl rfl; have a1 : R' 36 = .int .i64 y23 := hd 1 _ _ _ rfl rfl rfl rfl rfl; exact of_call Try.call37 (M_spec_l14Levels_okR (q26 rfl) (hA.fr hw.size) a0 a1)) <|
                  Obls.cons (Obl.plain rfl rfl fun R' w' hw hs hd => by have a0 : Rep (eSl (eInt .i64)) A w' (R' 37) x25 := hd 0 _ _ _ rfl rfl rfl rfl rfl; exact of_assign a0) <|
                  Obls.nil
              intro R w hw hs hF'
              replace h1 : R 1 = (.pointer (some ⟨b1_0, 0, none⟩)) := (hs 1 rfl).trans h1
              replace h5 : R 5 = u9 := (hs 5 rfl).trans h5
              replace h6 : R 6 = .int .i64 y13 := (hs 6 rfl).trans h6
              replace h7 : R 7 = .int .i64 y23 := (hs 7 rfl).trans h7
              obtain ⟨u27, h8, f_u27⟩ : ∃ u, R 8 = u ∧ Rep (eSl (eInt .i64)) A w u x25 := ⟨_, rfl, hF' 3 _ _ rfl rfl rfl⟩
              replace f_u9 := f_u9.fr hw
              replace hO := hO.fr hw
              replace hA := hA.fr hw.size
              replace hF := hF.trans hw
              clear hs hF' hw
              refine seqR_nil ?_
              refine HT.seq ?_
              refine HT.text (l := ⟨_, true, .raw (.int .i64 (0 : Int))⟩ :: []) (tl := []) (by kernel_rfl) (by kernel_rfl) (by kernel_rfl) ?_ ?_
              · exact
                  Obls.cons (Obl.plain rfl rfl fun R' w' hw hs hd => by exact of_assign rfl) <|
                  Obls.nil
              intro R w hw hs hF'
              replace h1 : R 1 = (.pointer (some ⟨b1_0, 0, none⟩)) := (hs 1 rfl).trans h1
              replace h5 : R 5 = u9 := (hs 5 rfl).trans h5
              replace h6 : R 6 = .int .i64 y13 := (hs 6 rfl).trans h6
              replace h7 : R 7 = .int .i64 y23 := (hs 7 rfl).trans h7
              replace h8 : R 8 = u27 := (hs 8 rfl).trans h8
              have h9 : R 9 = .int .i64 (0 : Int) := hF' 0 _ _ rfl rfl rfl
              replace f_u27 := f_u27.fr hw
              replace f_u9 := f_u9.fr hw
              replace hO := hO.fr hw
              replace hA := hA.fr hw.size
              replace hF := hF.trans hw
              clear hs hF' hw
              refine seqR_nil ?_
              obtain ⟨rl28, q29, hr⟩ := cl_some hr
              replace q29 := q29 rfl
              refine HT.cut0 (fun R w => ∃ A : Av, ∃ (s30 : Unit), rl28 = Ex.go s30 ∧ AvOK A w ∧ Fr w0 w ∧ (∀ b o, A0 b o → A b o) ∧ IniOK [ob (.pointer (some ⟨b1_0, 0, none⟩)) (.box w0.heap.size 29 E_impl_RuleSet p0)] A w ∧ R 1 = (.pointer (some ⟨b1_0, 0, none⟩)) ∧ R 5 = u9 ∧ R 6 = .int .i64 y13 ∧ R 7 = .int .i64 y23 ∧ Rep (eSl (eSl (eInt .i64))) A w u9 x7) ?_ ?_
              · refine HT.block ?_
                refine HT.loop (fun k R w => ∃ A : Av, ∃ (y31 : Int), M_spec_MonotoneViolation_L2 fu p0 x7 y13 y23 x25 k y31 = some rl28 ∧ AvOK A w ∧ Fr w0 w ∧ (∀ b o, A0 b o → A b o) ∧ IniOK [ob (.pointer (some ⟨b1_0, 0, none⟩)) (.box w0.heap.size 29 E_impl_RuleSet p0)] A w ∧ R 1 = (.pointer (some ⟨b1_0, 0, none⟩)) ∧ R 5 = u9 ∧ R 6 = .int .i64 y13 ∧ R 7 = .int .i64 y23 ∧ R 8 = u27 ∧ R 9 = .int .i64 y31 ∧ Rep (eSl (eInt .i64)) A w u27 x25 ∧ Rep (eSl (eSl (eInt .i64))) A w u9 x7) fu ⟨_, _, q29, hA, hF, hAA, hO, h1, h5, h6, h7, h8, h9, f_u27, f_u9⟩ ?_
                have hr2 := hr; clear hr q29
                rintro k R w ⟨A, y31, hr, hA, hF, hAA, hO, h1, h5, h6, h7, h8, h9, f_u27, f_u9⟩
                rcases k with _ | k
                · cases (show none = some _ from hr)
                rw [M_spec_MonotoneViolation_L2] at hr
                refine HT.seq ?_
                refine HT.seq ?_
                obtain ⟨e32, hr⟩ := ck_some hr
                refine HT.text (l := ⟨_, true, .raw (.int .i64 y31)⟩ :: ⟨_, true, .raw (.int .i64 (y31 + (1 : Int)))⟩ :: ⟨_, true, .raw u27⟩ :: ⟨_, true, .raw (.int .i64 (x25.length : Int))⟩ :: ⟨_, true, .raw (.bool (decide ((y31 + (1 : Int)) < (x25.length : Int))))⟩ :: []) (tl := []) (by kernel_rfl) (by kernel_rfl) (by kernel_rfl) ?_ ?_
                · exact
                    Obls.cons (Obl.plain rfl rfl fun R' w' hw hs hd => by have a0 : R' 9 = .int .i64 y31 := (hs 9 rfl).trans h9; exact of_move a0) <|
                    Obls.cons (Obl.plain rfl rfl fun R' w' hw hs hd => by have a0 : R' 38 = .int .i64 y31 := hd 0 _ _ _ rfl rfl rfl rfl rfl; exact of_add a0 rfl e32) <|
                    Obls.cons (Obl.plain rfl rfl fun R' w' hw hs hd => by have a0 : R' 8 = u27 := (hs 8 rfl).trans h8; exact of_move a0) <|
                    Obls.cons (Obl.plain rfl rfl fun R' w' hw hs hd => by have a0 : R' 40 = u27 := hd 0 _ _ _ rfl rfl rfl rfl rfl; have ra0 := (f_u27.fr hw).eq a0; exact of_len_sl (aT := #[]) ra0 Try.underlying33) <|
                    Obls.cons (Obl.plain rfl rfl fun R' w' hw hs hd => by have a0 : R' 39 = .int .i64 (y31 + (1 : Int)) := hd 0 _ _ _ rfl rfl rfl rfl rfl; have a1 : R' 41 = .int .i64 (x25.length : Int) := hd 1 _ _ _ rfl rfl rfl rfl rfl; exact of_lss a0 a1) <|
                    Obls.nil
                intro R w hw hs hF'
                replace h1 : R 1 = (.pointer (some ⟨b1_0, 0, none⟩)) := (hs 1 rfl).trans h1
                replace h5 : R 5 = u9 := (hs 5 rfl).trans h5
                replace h6 : R 6 = .int .i64 y13 := (hs 6 rfl).trans h6
                replace h7 : R 7 = .int .i64 y23 := (hs 7 rfl).trans h7
                replace h8 : R 8 = u27 := (hs 8 rfl).trans h8
                replace h9 : R 9 = .int .i64 y31 := (hs 9 rfl).trans h9
                have h42 : R 42 = .bool (decide ((y31 + (1 : Int)) < (x25.length : Int))) := hF' 4 _ _ rfl rfl rfl
                replace f_u27 := f_u27.fr hw
                replace f_u9 := f_u9.fr hw
                replace hO := hO.fr hw
                replace hA := hA.fr hw.size
                replace hF := hF.trans hw
                clear hs hF' hw
                refine seqR_nil ?_
                refine HT.cond (decide ((y31 + (1 : Int)) < (x25.length : Int))) h42 (fun c33 => ?_) (fun c33 => ?_)
                · have hr := cnd_t c33 hr
                  refine HT.skip ?_
                  refine HT.seq ?_
                  refine HT.block ?_
                  refine HT.seq ?_
                  refine HT.seq ?_
                  obtain ⟨e34, hr⟩ := ck_some hr
                  obtain ⟨e35, hr⟩ := ck_some hr
                  obtain ⟨e36, hr⟩ := ck_some hr
                  refine HT.draw (by kernel_rfl) (l := ⟨_, true, .raw u27⟩ :: ⟨_, true, .raw (.int .i64 y31)⟩ :: ⟨_, true, .qtr (eInt .i64) A (gtD x25 y31)⟩ :: ⟨_, true, .raw (.int .i64 (gtD x25 y31))⟩ :: ⟨_, true, .raw u9⟩ :: ⟨_, true, .raw (.int .i64 y13)⟩ :: ⟨_, true, .qtr (eSl (eInt .i64)) A (gtD x7 y13)⟩ :: ⟨_, true, .rep (eSl (eInt .i64)) A (gtD x7 y13)⟩ :: ⟨_, true, .raw (.int .i64 y23)⟩ :: ⟨_, true, .qtr (eInt .i64) A (gtD (gtD x7 y13) y23)⟩ :: ⟨_, true, .raw (.int .i64 (gtD (gtD x7 y13) y23))⟩ :: ⟨_, true, .raw (.bool ((gtD x25 y31) != (gtD (gtD x7 y13) y23)))⟩ :: []) (tl := []) (by kernel_rfl) (by kernel_rfl) (by kernel_rfl) (by kernel_rfl) ?_ ?_
                  · exact
                      Obls.cons (Obl.plain rfl rfl fun R' w' hw hs hd => by have a0 : R' 8 = u27 := (hs 8 rfl).trans h8; exact of_move a0) <|
                      Obls.cons (Obl.plain rfl rfl fun R' w' hw hs hd => by have a0 : R' 9 = .int .i64 y31 := (hs 9 rfl).trans h9; exact of_move a0) <|
                      Obls.cons (Obl.plain rfl rfl fun R' w' hw hs hd => by have a0 : R' 45 = u27 := hd 0 _ _ _ rfl rfl rfl rfl rfl; have a1 : R' 46 = .int .i64 y31 := hd 1 _ _ _ rfl rfl rfl rfl rfl; have ra0 := (f_u27.fr hw).eq a0; exact of_indexAddr ra0 a1 Try.underlying33 Try.sizeOf3 e34) <|
                      Obls.cons (Obl.plain rfl rfl fun R' w' hw hs hd => by have a0 : QRep (eInt .i64) A w' (R' 47) (gtD x25 y31) := hd 0 _ _ _ rfl rfl rfl rfl rfl; exact OpF.int (of_load a0.ptr Try.isAgg3 Try.sizeOf3)) <|
                      Obls.cons (Obl.plain rfl rfl fun R' w' hw hs hd => by have a0 : R' 5 = u9 := (hs 5 rfl).trans h5; exact of_move a0) <|
                      Obls.cons (Obl.plain rfl rfl fun R' w' hw hs hd => by have a0 : R' 6 = .int .i64 y13 := (hs 6 rfl).trans h6; exact of_move a0) <|
                      Obls.cons (Obl.plain rfl rfl fun R' w' hw hs hd => by have a0 : R' 49 = u9 := hd 0 _ _ _ rfl rfl rfl rfl rfl; have a1 : R' 50 = .int .i64 y13 := hd 1 _ _ _ rfl rfl rfl rfl rfl; have ra0 := (f_u9.fr hw).eq a0; exact of_indexAddr ra0 a1 Try.underlying55 Try.sizeOf33 e35) <|
                      Obls.cons (Obl.plain rfl rfl fun R' w' hw hs hd => by have a0 : QRep (eSl (eInt .i64)) A w' (R' 51) (gtD x7 y13) := hd 0 _ _ _ rfl rfl rfl rfl rfl; exact (of_load a0.ptr Try.isAgg33 Try.sizeOf33)) <|
                      Obls.cons (Obl.plain rfl rfl fun R' w' hw hs hd => by have a0 : R' 7 = .int .i64 y23 := (hs 7 rfl).trans h7; exact of_move a0) <|
                      Obls.cons (Obl.plain rfl rfl fun R' w' hw hs hd => by have a0 : Rep (eSl (eInt .i64)) A w' (R' 52) (gtD x7 y13) := hd 0 _ _ _ rfl rfl rfl rfl rfl; have a1 : R' 53 = .int .i64 y23 := hd 1 _ _ _ rfl rfl rfl rfl rfl; exact of_indexAddr a0 a1 Try.underlying33 Try.sizeOf3 e36) <|
                      Obls.cons (Obl.plain rfl rfl fun R' w' hw hs hd => by have a0 : QRep (eInt .i64) A w' (R' 54) (gtD (gtD x7 y13) y23) := hd 0 _ _ _ rfl rfl rfl rfl rfl; exact OpF.int (of_load a0.ptr Try.isAgg3 Try.sizeOf3)) <|
                      Obls.cons (Obl.plain rfl rfl fun R' w' hw hs hd => by have a0 : R' 48 = .int .i64 (gtD x25 y31) := hd 0 _ _ _ rfl rfl rfl rfl rfl; have a1 : R' 55 = .int .i64 (gtD (gtD x7 y13) y23) := hd 1 _ _ _ rfl rfl rfl rfl rfl; exact of_neq a0 a1) <|
                      Obls.nil
                  intro R w hw hs hF'
                  replace h1 : R 1 = (.pointer (some ⟨b1_0, 0, none⟩)) := (hs 1 rfl).trans h1
                  replace h5 : R 5 = u9 := (hs 5 rfl).trans h5
                  replace h6 : R 6 = .int .i64 y13 := (hs 6 rfl).trans h6
                  replace h7 : R 7 = .int .i64 y23 := (hs 7 rfl).trans h7
                  replace h8 : R 8 = u27 := (hs 8 rfl).trans h8
                  replace h9 : R 9 = .int .i64 y31 := (hs 9 rfl).trans h9
                  have h56 : R 56 = .bool ((gtD x25 y31) != (gtD (gtD x7 y13) y23)) := hF' 11 _ _ rfl rfl rfl
                  replace f_u27 := f_u27.fr hw
                  replace f_u9 := f_u9.fr hw
                  replace hO := hO.fr hw
                  replace hA := hA.fr hw.size
                  replace hF := hF.trans hw
                  clear hs hF' hw
                  refine seqR_nil ?_
                  refine HT.cond ((gtD x25 y31) != (gtD (gtD x7 y13) y23)) h56 (fun c37 => ?_) (fun c37 => ?_)
                  · have hr := cnd_t c37 hr
                    refine HT.exit ?_
                    obtain ⟨e38, hr⟩ := ck_some hr
                    refine HT.text (l := ⟨_, true, .raw (.int .i64 y31)⟩ :: ⟨_, true, .raw (.int .i64 (y31 + (1 : Int)))⟩ :: ⟨_, true, .raw (.int .i64 (y31 + (1 : Int)))⟩ :: []) (tl := []) (by kernel_rfl) (by kernel_rfl) (by kernel_rfl) ?_ ?_
                    · exact
                        Obls.cons (Obl.plain rfl rfl fun R' w' hw hs hd => by have a0 : R' 9 = .int .i64 y31 := (hs 9 rfl).trans h9; exact of_move a0) <|
                        Obls.cons (Obl.plain rfl rfl fun R' w' hw hs hd => by have a0 : R' 43 = .int .i64 y31 := hd 0 _ _ _ rfl rfl rfl rfl rfl; exact of_add a0 rfl e38) <|
                        Obls.cons (Obl.plain rfl rfl fun R' w' hw hs hd => by have a0 : R' 44 = .int .i64 (y31 + (1 : Int)) := hd 0 _ _ _ rfl rfl rfl rfl rfl; exact of_assign a0) <|
                        Obls.nil
                    intro R w hw hs hF'
                    replace h1 : R 1 = (.pointer (some ⟨b1_0, 0, none⟩)) := (hs 1 rfl).trans h1
                    replace h5 : R 5 = u9 := (hs 5 rfl).trans h5
                    replace h6 : R 6 = .int .i64 y13 := (hs 6 rfl).trans h6
                    replace h7 : R 7 = .int .i64 y23 := (hs 7 rfl).trans h7
                    replace h8 : R 8 = u27 := (hs 8 rfl).trans h8
                    have h9 : R 9 = .int .i64 (y31 + (1 : Int)) := hF' 2 _ _ rfl rfl rfl
                    replace f_u27 := f_u27.fr hw
                    replace f_u9 := f_u9.fr hw
                    replace hO := hO.fr hw
                    replace hA := hA.fr hw.size
                    replace hF := hF.trans hw
                    clear hs hF' hw
                    refine seqR_nil ?_
                    exact Exists.intro k (And.intro (Nat.lt_succ_self k) ⟨_, _, hr, hA, hF, hAA, hO, h1, h5, h6, h7, h8, h9, f_u27, f_u9⟩)
                  · have hr := cnd_f c37 hr
                    refine HT.skip ?_
                    refine HT.seq ?_
                    obtain ⟨e39, hr⟩ := ck_some hr
                    obtain ⟨e40, hr⟩ := ck_some hr
                    refine HT.textR [ob (.pointer (some ⟨b1_0, 0, none⟩)) (.box w0.heap.size 29 E_impl_RuleSet p0)] (⟨_, true, [], some (.vec w0.heap.size 3 (eInt .i64) ([] : List Int)), true, fun A => .any⟩ :: ⟨_, true, [], none, true, fun A => .raw u9⟩ :: ⟨_, true, [], none, true, fun A => .raw (.int .i64 y13)⟩ :: ⟨_, true, [], none, true, fun A => .qtr (eSl (eInt .i64)) A (gtD x7 y13)⟩ :: ⟨_, true, [], none, true, fun A => .rep (eSl (eInt .i64)) A (gtD x7 y13)⟩ :: ⟨_, true, [1], some (.vec w0.heap.size 3 (eInt .i64) (([] : List Int) ++ (gtD x7 y13))), true, fun A => .any⟩ :: ⟨_, true, [6], some (.vec w0.heap.size 3 (eInt .i64) (([] : List Int) ++ (gtD x7 y13))), true, fun A => .any⟩ :: []) (by kernel_rfl) (by kernel_rfl) (Wf.mk' (by kernel_rfl) (UAll.cons ust_any (UAll.cons ust_raw (UAll.cons ust_raw (UAll.cons ust_qtr (UAll.cons ust_rep (UAll.cons ust_any (UAll.cons ust_any (UAll.nil)))))))) (by kernel_rfl) (by kernel_rfl)) hO hA ?_ ?_
                    · exact
                        OblsR.cons (OblR.made _ rfl rfl rfl rfl fun A' R' w' ho hd => by exact made_build [] (E := eInt .i64) trivial Try.underlying33 Try.sizeOf3 Try.zeroValue3 rfl rfl rfl (Nat.le_trans hF.size ho.ch.size)) <|
                        OblsR.cons (OblR.plain rfl rfl rfl rfl fun A' R' w' ho hd => by have a0 : R' 5 = u9 := (ho.old 5 rfl).trans h5; exact of_move a0) <|
                        OblsR.cons (OblR.plain rfl rfl rfl rfl fun A' R' w' ho hd => by have a0 : R' 6 = .int .i64 y13 := (ho.old 6 rfl).trans h6; exact of_move a0) <|
                        OblsR.cons (OblR.plain rfl rfl rfl rfl fun A' R' w' ho hd => by have a0 : R' 58 = u9 := hd 0 _ _ _ rfl rfl rfl rfl rfl; have a1 : R' 59 = .int .i64 y13 := hd 1 _ _ _ rfl rfl rfl rfl rfl; have ra0 := (f_u9.stp ho.stp).eq a0; exact of_indexAddr ra0 a1 Try.underlying55 Try.sizeOf33 e39) <|
                        OblsR.cons (OblR.plain rfl rfl rfl rfl fun A' R' w' ho hd => by have a0 : QRep (eSl (eInt .i64)) A' w' (R' 60) (gtD x7 y13) := hd 0 _ _ _ rfl rfl rfl rfl rfl; exact (of_load a0.ptr Try.isAgg33 Try.sizeOf33)) <|
                        OblsR.cons (OblR.took 1 _ _ rfl rfl rfl rfl rfl fun A' R' w' ho hd u hok hav hin hop hds => by have a1 : Rep (eSl (eInt .i64)) A' w' (R' 61) (gtD x7 y13) := hd 1 _ _ _ rfl rfl rfl rfl rfl; exact took_append (hop _ _ rfl rfl rfl rfl).symm hok hav (Nat.le_trans hF.size ho.ch.size) a1 Try.underlying33 el_3 e40) <|
                        OblsR.cons (OblR.took 6 _ _ rfl rfl rfl rfl rfl fun A' R' w' ho hd u hok hav hin hop hds => by exact took_assign (hop _ _ rfl rfl rfl rfl).symm hok hav) <|
                        OblsR.nil
                    intro done ρ σ A R w hdn hI
                    replace h1 : R 1 = (.pointer (some ⟨b1_0, 0, none⟩)) := (hI.reg rfl).trans h1
                    replace h5 : R 5 = u9 := (hI.reg rfl).trans h5
                    replace h6 : R 6 = .int .i64 y13 := (hI.reg rfl).trans h6
                    replace h7 : R 7 = .int .i64 y23 := (hI.reg rfl).trans h7
                    replace h8 : R 8 = u27 := (hI.reg rfl).trans h8
                    replace h9 : R 9 = .int .i64 y31 := (hI.reg rfl).trans h9
                    have z41 := hI.inivR 0 rfl
                    obtain ⟨u42, e_u42⟩ : ∃ u, ρ 7 = u := ⟨_, rfl⟩
                    have h10 : R 10 = u42 := (hI.opvR hdn 7 6 rfl rfl rfl rfl rfl).symm.trans e_u42
                    replace f_u27 := f_u27.stp hI.stp
                    replace f_u9 := f_u9.stp hI.stp
                    replace hAA := hI.low' hAA hA0 (hO.ge (⟨rfl, trivial⟩))
                    replace hF : Fr w0 w := hF.tr hI.ch (hO.ge (⟨rfl, trivial⟩))
                    replace hO : IniOK [ob (.pointer (some ⟨b1_0, 0, none⟩)) (.box w0.heap.size 29 E_impl_RuleSet p0), ob u42 (.vec w0.heap.size 3 (eInt .i64) (([] : List Int) ++ (gtD x7 y13)))] A w := hI.left hdn [(0, ob (.pointer (some ⟨b1_0, 0, none⟩)) (.box w0.heap.size 29 E_impl_RuleSet p0)), (7, ob u42 (.vec w0.heap.size 3 (eInt .i64) (([] : List Int) ++ (gtD x7 y13))))] ⟨rfl, rfl, z41, rfl, rfl, ⟨rfl, rfl, e_u42, rfl, rfl, trivial⟩⟩
                    replace hA := hI.avok
                    clear hI
                    refine HT.seq ?_
                    obtain ⟨e43, hr⟩ := ck_some hr
                    obtain ⟨e44, hr⟩ := ck_some hr
                    obtain ⟨e45, hr⟩ := ck_some hr
                    refine HT.textR [ob (.pointer (some ⟨b1_0, 0, none⟩)) (.box w0.heap.size 29 E_impl_RuleSet p0), ob u42 (.vec w0.heap.size 3 (eInt .i64) (([] : List Int) ++ (gtD x7 y13)))] (⟨_, true, [], none, true, fun A => .raw u42⟩ :: ⟨_, true, [], none, true, fun A => .raw (.int .i64 y23)⟩ :: ⟨_, true, [], none, true, fun A => .raw u27⟩ :: ⟨_, true, [], none, true, fun A => .raw (.int .i64 y31)⟩ :: ⟨_, true, [], none, true, fun A => .raw (.int .i64 (y31 + (1 : Int)))⟩ :: ⟨_, true, [], none, true, fun A => .qtr (eInt .i64) A (gtD x25 (y31 + (1 : Int)))⟩ :: ⟨_, true, [], none, true, fun A => .raw (.int .i64 (gtD x25 (y31 + (1 : Int))))⟩ :: ⟨_, true, [], none, true, fun A => .raw (vptr u42 (y23.toNat * 1))⟩ :: ⟨_, true, [1], some (.vec w0.heap.size 3 (eInt .i64) ((([] : List Int) ++ (gtD x7 y13)).set y23.toNat (gtD x25 (y31 + (1 : Int))))), false, fun A => .any⟩ :: []) (by kernel_rfl) (by kernel_rfl) (Wf.mk' (by kernel_rfl) (UAll.cons ust_raw (UAll.cons ust_raw (UAll.cons ust_raw (UAll.cons ust_raw (UAll.cons ust_raw (UAll.cons ust_qtr (UAll.cons ust_raw (UAll.cons ust_raw (UAll.cons ust_any (UAll.nil)))))))))) (by kernel_rfl) (by kernel_rfl)) hO hA ?_ ?_
                    · exact
                        OblsR.cons (OblR.plain rfl rfl rfl rfl fun A' R' w' ho hd => by have a0 : R' 10 = u42 := (ho.old 10 rfl).trans h10; exact of_move a0) <|
                        OblsR.cons (OblR.plain rfl rfl rfl rfl fun A' R' w' ho hd => by have a0 : R' 7 = .int .i64 y23 := (ho.old 7 rfl).trans h7; exact of_move a0) <|
                        OblsR.cons (OblR.plain rfl rfl rfl rfl fun A' R' w' ho hd => by have a0 : R' 8 = u27 := (ho.old 8 rfl).trans h8; exact of_move a0) <|
                        OblsR.cons (OblR.plain rfl rfl rfl rfl fun A' R' w' ho hd => by have a0 : R' 9 = .int .i64 y31 := (ho.old 9 rfl).trans h9; exact of_move a0) <|
                        OblsR.cons (OblR.plain rfl rfl rfl rfl fun A' R' w' ho hd => by have a0 : R' 66 = .int .i64 y31 := hd 0 _ _ _ rfl rfl rfl rfl rfl; exact of_add a0 rfl e43) <|
                        OblsR.cons (OblR.plain rfl rfl rfl rfl fun A' R' w' ho hd => by have a0 : R' 65 = u27 := hd 0 _ _ _ rfl rfl rfl rfl rfl; have a1 : R' 67 = .int .i64 (y31 + (1 : Int)) := hd 1 _ _ _ rfl rfl rfl rfl rfl; have ra0 := (f_u27.stp ho.stp).eq a0; exact of_indexAddr ra0 a1 Try.underlying33 Try.sizeOf3 e44) <|
                        OblsR.cons (OblR.plain rfl rfl rfl rfl fun A' R' w' ho hd => by have a0 : QRep (eInt .i64) A' w' (R' 68) (gtD x25 (y31 + (1 : Int))) := hd 0 _ _ _ rfl rfl rfl rfl rfl; exact OpF.int (of_load a0.ptr Try.isAgg3 Try.sizeOf3)) <|
                        OblsR.cons (OblR.plain rfl rfl rfl rfl fun A' R' w' ho hd => by have a0 : R' 63 = u42 := hd 0 _ _ _ rfl rfl rfl rfl rfl; have a1 : R' 64 = .int .i64 y23 := hd 1 _ _ _ rfl rfl rfl rfl rfl; exact of_indexAddr_vec (hO.ok 1 _ rfl).1 a0 a1 Try.underlying33 Try.sizeOf3 e45 rfl) <|
                        OblsR.cons (OblR.took 1 _ _ rfl rfl rfl rfl rfl fun A' R' w' ho hd u hok hav hin hop hds => by have a0 : R' 70 = (vptr u42 (y23.toNat * 1)) := hd 0 _ _ _ rfl rfl rfl rfl rfl; have a1 : R' 69 = .int .i64 (gtD x25 (y31 + (1 : Int))) := hd 1 _ _ _ rfl rfl rfl rfl rfl; obtain rfl := hin _ rfl; exact took_vstore (rep_int.eq a1) hok hav a0 e45 rfl (FldS.id _) Try.sizeOf3 rfl) <|
                        OblsR.nil
                    intro done ρ σ A R w hdn hI
                    replace h1 : R 1 = (.pointer (some ⟨b1_0, 0, none⟩)) := (hI.reg rfl).trans h1
                    replace h5 : R 5 = u9 := (hI.reg rfl).trans h5
                    replace h6 : R 6 = .int .i64 y13 := (hI.reg rfl).trans h6
                    replace h7 : R 7 = .int .i64 y23 := (hI.reg rfl).trans h7
                    replace h8 : R 8 = u27 := (hI.reg rfl).trans h8
                    replace h9 : R 9 = .int .i64 y31 := (hI.reg rfl).trans h9
                    replace h10 : R 10 = u42 := (hI.reg rfl).trans h10
                    have z46 := hI.inivR 0 rfl
                    have z47 := hI.inivR 1 rfl
                    have z48 := (hI.opnR hdn 10 8 rfl rfl rfl rfl rfl).trans z47
                    replace f_u27 := f_u27.stp hI.stp
                    replace f_u9 := f_u9.stp hI.stp
                    replace hAA := hI.low' hAA hA0 (hO.ge (⟨rfl, ⟨rfl, trivial⟩⟩))
                    replace hF : Fr w0 w := hF.tr hI.ch (hO.ge (⟨rfl, ⟨rfl, trivial⟩⟩))
                    replace hO : IniOK [ob (.pointer (some ⟨b1_0, 0, none⟩)) (.box w0.heap.size 29 E_impl_RuleSet p0), ob u42 (.vec w0.heap.size 3 (eInt .i64) ((([] : List Int) ++ (gtD x7 y13)).set y23.toNat (gtD x25 (y31 + (1 : Int)))))] A w := hI.left hdn [(0, ob (.pointer (some ⟨b1_0, 0, none⟩)) (.box w0.heap.size 29 E_impl_RuleSet p0)), (10, ob u42 (.vec w0.heap.size 3 (eInt .i64) ((([] : List Int) ++ (gtD x7 y13)).set y23.toNat (gtD x25 (y31 + (1 : Int))))))] ⟨rfl, rfl, z46, rfl, rfl, ⟨rfl, rfl, z48, rfl, rfl, trivial⟩⟩
                    replace hA := hI.avok
                    clear hI
                    refine HT.seq ?_
                    obtain ⟨x49, q50, hr⟩ := cl_some hr
                    refine HT.text (l := ⟨_, true, .rep E_impl_RuleSet A p0⟩ :: ⟨_, true, .raw u42⟩ :: ⟨_, true, .raw (.bool x49)⟩ :: ⟨_, true, .raw (.bool (!x49))⟩ :: []) (tl := []) (by kernel_rfl) (by kernel_rfl) (by kernel_rfl) ?_ ?_
                    · exact
                        Obls.cons (Obl.plain rfl rfl fun R' w' hw hs hd => by have a0 : R' 1 = (.pointer (some ⟨b1_0, 0, none⟩)) := (hs 1 rfl).trans h1; exact (of_load_box ((hO.fr hw).ok 0 _ rfl).1 a0 (Fld.id _) rfl Try.isAgg29 Try.sizeOf29)) <|
                        Obls.cons (Obl.plain rfl rfl fun R' w' hw hs hd => by have a0 : R' 10 = u42 := (hs 10 rfl).trans h10; exact of_move a0) <|
                        Obls.cons (Obl.plain rfl rfl fun R' w' hw hs hd => by have a0 : Rep E_impl_RuleSet A w' (R' 71) p0 := hd 0 _ _ _ rfl rfl rfl rfl rfl; have a1 : R' 72 = u42 := hd 1 _ _ _ rfl rfl rfl rfl rfl; have ra1 := (vec_rep ((hO.fr hw).ok 1 _ rfl).1 hAA hA0).eq a1; exact of_call Try.call31 (M_spec_RulesHold_ok (q50 rfl) (hA00.fr ((Nat.le_trans hF.size hw.size))) (a0.down hAA) ra1)) <|
                        Obls.cons (Obl.plain rfl rfl fun R' w' hw hs hd => by have a0 : R' 73 = .bool x49 := hd 0 _ _ _ rfl rfl rfl rfl rfl; exact of_not a0) <|
                        Obls.nil
                    intro R w hw hs hF'
                    replace h1 : R 1 = (.pointer (some ⟨b1_0, 0, none⟩)) := (hs 1 rfl).trans h1
                    replace h5 : R 5 = u9 := (hs 5 rfl).trans h5
                    replace h6 : R 6 = .int .i64 y13 := (hs 6 rfl).trans h6
                    replace h7 : R 7 = .int .i64 y23 := (hs 7 rfl).trans h7
                    replace h8 : R 8 = u27 := (hs 8 rfl).trans h8
                    replace h9 : R 9 = .int .i64 y31 := (hs 9 rfl).trans h9
                    replace h10 : R 10 = u42 := (hs 10 rfl).trans h10
                    have h74 : R 74 = .bool (!x49) := hF' 3 _ _ rfl rfl rfl
                    replace f_u27 := f_u27.fr hw
                    replace f_u9 := f_u9.fr hw
                    replace hO := hO.fr hw
                    replace hA := hA.fr hw.size
                    replace hF := hF.trans hw
                    clear hs hF' hw
                    refine seqR_nil ?_
                    refine HT.cond (!x49) h74 (fun c51 => ?_) (fun c51 => ?_)
                    · have hr := cnd_t c51 hr
                      refine HT.seq ?_
                      obtain ⟨e52, hr⟩ := ck_some hr
                      refine HT.textR [ob (.pointer (some ⟨b1_0, 0, none⟩)) (.box w0.heap.size 29 E_impl_RuleSet p0), ob u42 (.vec w0.heap.size 3 (eInt .i64) ((([] : List Int) ++ (gtD x7 y13)).set y23.toNat (gtD x25 (y31 + (1 : Int)))))] (⟨_, true, [], none, true, fun A => .raw u9⟩ :: ⟨_, true, [], none, true, fun A => .raw (.int .i64 y13)⟩ :: ⟨_, true, [], none, true, fun A => .qtr (eSl (eInt .i64)) A (gtD x7 y13)⟩ :: ⟨_, true, [], none, true, fun A => .rep (eSl (eInt .i64)) A (gtD x7 y13)⟩ :: ⟨_, true, [], none, true, fun A => .raw u42⟩ :: ⟨_, true, [], none, true, fun A => .rep (eSl (eInt .i64)) A (gtD x7 y13)⟩ :: ⟨_, true, [1], some (.nul), false, fun A => .rep (eSl (eInt .i64)) A ((([] : List Int) ++ (gtD x7 y13)).set y23.toNat (gtD x25 (y31 + (1 : Int))))⟩ :: ⟨_, true, [], none, true, fun A => .raw (.bool true)⟩ :: []) (by kernel_rfl) (by kernel_rfl) (Wf.mk' (by kernel_rfl) (UAll.cons ust_raw (UAll.cons ust_raw (UAll.cons ust_qtr (UAll.cons ust_rep (UAll.cons ust_raw (UAll.cons ust_rep (UAll.cons ust_rep (UAll.cons ust_raw (UAll.nil))))))))) (by kernel_rfl) (by kernel_rfl)) hO hA ?_ ?_
                      · exact
                          OblsR.cons (OblR.plain rfl rfl rfl rfl fun A' R' w' ho hd => by have a0 : R' 5 = u9 := (ho.old 5 rfl).trans h5; exact of_move a0) <|
                          OblsR.cons (OblR.plain rfl rfl rfl rfl fun A' R' w' ho hd => by have a0 : R' 6 = .int .i64 y13 := (ho.old 6 rfl).trans h6; exact of_move a0) <|
                          OblsR.cons (OblR.plain rfl rfl rfl rfl fun A' R' w' ho hd => by have a0 : R' 75 = u9 := hd 0 _ _ _ rfl rfl rfl rfl rfl; have a1 : R' 76 = .int .i64 y13 := hd 1 _ _ _ rfl rfl rfl rfl rfl; have ra0 := (f_u9.stp ho.stp).eq a0; exact of_indexAddr ra0 a1 Try.underlying55 Try.sizeOf33 e52) <|
                          OblsR.cons (OblR.plain rfl rfl rfl rfl fun A' R' w' ho hd => by have a0 : QRep (eSl (eInt .i64)) A' w' (R' 77) (gtD x7 y13) := hd 0 _ _ _ rfl rfl rfl rfl rfl; exact (of_load a0.ptr Try.isAgg33 Try.sizeOf33)) <|
                          OblsR.cons (OblR.plain rfl rfl rfl rfl fun A' R' w' ho hd => by have a0 : R' 10 = u42 := (ho.old 10 rfl).trans h10; exact of_move a0) <|
                          OblsR.cons (OblR.plain rfl rfl rfl rfl fun A' R' w' ho hd => by have a0 : Rep (eSl (eInt .i64)) A' w' (R' 78) (gtD x7 y13) := hd 0 _ _ _ rfl rfl rfl rfl rfl; exact of_assign a0) <|
                          OblsR.cons (OblR.frz 1 _ rfl rfl rfl rfl rfl fun A' R' w' ho hd u hok hav hin hop hds => by have a0 : R' 79 = u42 := hd 0 _ _ _ rfl rfl rfl rfl rfl; exact frz_assign (a0.trans (hin _ rfl).symm) hok ho.av hav) <|
                          OblsR.cons (OblR.plain rfl rfl rfl rfl fun A' R' w' ho hd => by exact of_assign rfl) <|
                          OblsR.nil
                      intro done ρ σ A R w hdn hI
                      have z53 := hI.inivR 0 rfl
                      obtain ⟨u54, h2, f_u54⟩ : ∃ u, R 2 = u ∧ Rep (eSl (eInt .i64)) A w u (gtD x7 y13) := ⟨_, rfl, hI.fact hdn (i := 5) rfl rfl rfl⟩
                      obtain ⟨u55, h3, f_u55⟩ : ∃ u, R 3 = u ∧ Rep (eSl (eInt .i64)) A w u ((([] : List Int) ++ (gtD x7 y13)).set y23.toNat (gtD x25 (y31 + (1 : Int)))) := ⟨_, rfl, hI.fact hdn (i := 6) rfl rfl rfl⟩
                      have h4 : R 4 = .bool true := hI.fact hdn (i := 7) rfl rfl rfl
                      replace hAA := hI.low' hAA hA0 (hO.ge (⟨rfl, ⟨rfl, trivial⟩⟩))
                      replace hF : Fr w0 w := hF.tr hI.ch (hO.ge (⟨rfl, ⟨rfl, trivial⟩⟩))
                      replace hO : IniOK [] A w := hI.left hdn [] trivial
                      replace hA := hI.avok
                      clear hI
                      refine HT.ret ?_
                      obtain rfl := Option.some.inj hr
                      have hr := hr2
                      replace hr : some _ = some _ := hr
                      obtain rfl := Option.some.inj hr
                      have hr := hr1
                      replace hr : some _ = some _ := hr
                      obtain rfl := Option.some.inj hr
                      have hr := hr0
                      replace hr : some _ = some _ := hr
                      obtain rfl := Option.some.inj hr
                      exact ⟨.inr rfl, [R 2, R 3, R 4], ⟨rfl, ⟨rfl, ⟨rfl, trivial⟩⟩⟩, ⟨_, _, _, rfl, (f_u54.eq h2).down hAA, (f_u55.eq h3).down hAA, h4⟩, hF⟩
                    · have hr := cnd_f c51 hr
                      refine HT.skip ?_
                      obtain ⟨e56, hr⟩ := ck_some hr
                      refine HT.text (l := ⟨_, true, .raw (.int .i64 y31)⟩ :: ⟨_, true, .raw (.int .i64 (y31 + (1 : Int)))⟩ :: ⟨_, true, .raw (.int .i64 (y31 + (1 : Int)))⟩ :: []) (tl := []) (by kernel_rfl) (by kernel_rfl) (by kernel_rfl) ?_ ?_
                      · exact
                          Obls.cons (Obl.plain rfl rfl fun R' w' hw hs hd => by have a0 : R' 9 = .int .i64 y31 := (hs 9 rfl).trans h9; exact of_move a0) <|
                          Obls.cons (Obl.plain rfl rfl fun R' w' hw hs hd => by have a0 : R' 43 = .int .i64 y31 := hd 0 _ _ _ rfl rfl rfl rfl rfl; exact of_add a0 rfl e56) <|
                          Obls.cons (Obl.plain rfl rfl fun R' w' hw hs hd => by have a0 : R' 44 = .int .i64 (y31 + (1 : Int)) := hd 0 _ _ _ rfl rfl rfl rfl rfl; exact of_assign a0) <|
                          Obls.nil
                      intro R w hw hs hF'
                      replace h1 : R 1 = (.pointer (some ⟨b1_0, 0, none⟩)) := (hs 1 rfl).trans h1
                      replace h5 : R 5 = u9 := (hs 5 rfl).trans h5
                      replace h6 : R 6 = .int .i64 y13 := (hs 6 rfl).trans h6
                      replace h7 : R 7 = .int .i64 y23 := (hs 7 rfl).trans h7
                      replace h8 : R 8 = u27 := (hs 8 rfl).trans h8
                      have h9 : R 9 = .int .i64 (y31 + (1 : Int)) := hF' 2 _ _ rfl rfl rfl
                      replace f_u27 := f_u27.fr hw
                      replace f_u9 := f_u9.fr hw
                      replace hO := hO.fr hw
                      replace hO : IniOK [ob (.pointer (some ⟨b1_0, 0, none⟩)) (.box w0.heap.size 29 E_impl_RuleSet p0)] A w := hO.sub [(0, ob (.pointer (some ⟨b1_0, 0, none⟩)) (.box w0.heap.size 29 E_impl_RuleSet p0))] ⟨rfl, rfl, trivial⟩
                      replace hA := hA.fr hw.size
                      replace hF := hF.trans hw
                      clear hs hF' hw
                      refine seqR_nil ?_
                      exact Exists.intro k (And.intro (Nat.lt_succ_self k) ⟨_, _, hr, hA, hF, hAA, hO, h1, h5, h6, h7, h8, h9, f_u27, f_u9⟩)
                · have hr := cnd_f c33 hr
                  refine HT.exit ?_
                  obtain rfl := Option.some.inj hr
                  exact Exists.intro _ ⟨_, rfl, hA, hF, hAA, hO, h1, h5, h6, h7, f_u9⟩
              rintro R w ⟨A, s30, rfl, hA, hF, hAA, hO, h1, h5, h6, h7, f_u9⟩
              have hr := exM_go hr
              obtain ⟨e57, hr⟩ := ck_some hr
              refine HT.text (l := ⟨_, true, .raw (.int .i64 y23)⟩ :: ⟨_, true, .raw (.int .i64 (y23 + (1 : Int)))⟩ :: ⟨_, true, .raw (.int .i64 (y23 + (1 : Int)))⟩ :: []) (tl := []) (by kernel_rfl) (by kernel_rfl) (by kernel_rfl) ?_ ?_
              · exact
                  Obls.cons (Obl.plain rfl rfl fun R' w' hw hs hd => by have a0 : R' 7 = .int .i64 y23 := (hs 7 rfl).trans h7; exact of_move a0) <|
                  Obls.cons (Obl.plain rfl rfl fun R' w' hw hs hd => by have a0 : R' 33 = .int .i64 y23 := hd 0 _ _ _ rfl rfl rfl rfl rfl; exact of_add a0 rfl e57) <|
                  Obls.cons (Obl.plain rfl rfl fun R' w' hw hs hd => by have a0 : R' 34 = .int .i64 (y23 + (1 : Int)) := hd 0 _ _ _ rfl rfl rfl rfl rfl; exact of_assign a0) <|
                  Obls.nil
              intro R w hw hs hF'
              replace h1 : R 1 = (.pointer (some ⟨b1_0, 0, none⟩)) := (hs 1 rfl).trans h1
              replace h5 : R 5 = u9 := (hs 5 rfl).trans h5
              replace h6 : R 6 = .int .i64 y13 := (hs 6 rfl).trans h6
              have h7 : R 7 = .int .i64 (y23 + (1 : Int)) := hF' 2 _ _ rfl rfl rfl
              replace f_u9 := f_u9.fr hw
              replace hO := hO.fr hw
              replace hA := hA.fr hw.size
              replace hF := hF.trans hw
              clear hs hF' hw
              refine seqR_nil ?_
              exact Exists.intro k (And.intro (Nat.lt_succ_self k) ⟨_, _, hr, hA, hF, hAA, hO, h1, h5, h6, h7, f_u9⟩)
            · have hr := cnd_f c24 hr
              refine HT.exit ?_
              obtain rfl := Option.some.inj hr
              exact Exists.intro _ ⟨_, rfl, hA, hF, hAA, hO, h1, h5, h6, f_u9⟩
          rintro R w ⟨A, s22, rfl, hA, hF, hAA, hO, h1, h5, h6, f_u9⟩
          have hr := exM_go hr
          obtain ⟨e58, hr⟩ := ck_some hr
          refine HT.text (l := ⟨_, true, .raw (.int .i64 y13)⟩ :: ⟨_, true, .raw (.int .i64 (y13 + (1 : Int)))⟩ :: ⟨_, true, .raw (.int .i64 (y13 + (1 : Int)))⟩ :: []) (tl := []) (by kernel_rfl) (by kernel_rfl) (by kernel_rfl) ?_ ?_
          · exact
              Obls.cons (Obl.plain rfl rfl fun R' w' hw hs hd => by have a0 : R' 6 = .int .i64 y13 := (hs 6 rfl).trans h6; exact of_move a0) <|
              Obls.cons (Obl.plain rfl rfl fun R' w' hw hs hd => by have a0 : R' 22 = .int .i64 y13 := hd 0 _ _ _ rfl rfl rfl rfl rfl; exact of_add a0 rfl e58) <|
              Obls.cons (Obl.plain rfl rfl fun R' w' hw hs hd => by have a0 : R' 23 = .int .i64 (y13 + (1 : Int)) := hd 0 _ _ _ rfl rfl rfl rfl rfl; exact of_assign a0) <|
              Obls.nil
          intro R w hw hs hF'
          replace h1 : R 1 = (.pointer (some ⟨b1_0, 0, none⟩)) := (hs 1 rfl).trans h1
          replace h5 : R 5 = u9 := (hs 5 rfl).trans h5
          have h6 : R 6 = .int .i64 (y13 + (1 : Int)) := hF' 2 _ _ rfl rfl rfl
          replace f_u9 := f_u9.fr hw
          replace hO := hO.fr hw
          replace hA := hA.fr hw.size
          replace hF := hF.trans hw
          clear hs hF' hw
          refine seqR_nil ?_
          exact Exists.intro k (And.intro (Nat.lt_succ_self k) ⟨_, _, hr, hA, hF, hAA, hO, h1, h5, h6, f_u9⟩)
      · have hr := cnd_f c14 hr
        refine HT.exit ?_
        obtain rfl := Option.some.inj hr
        replace hO : IniOK [] A w := hO.sub [] trivial
        exact Exists.intro _ ⟨_, rfl, hA, hF, hAA, hO⟩
    rintro R w ⟨A, s12, rfl, hA, hF, hAA, hO⟩
    have hr := exM_go hr
    refine HT.seq ?_
    refine HT.text (l := ⟨_, true, .rep (eSl (eInt .i64)) A ([] : List Int)⟩ :: ⟨_, true, .rep (eSl (eInt .i64)) A ([] : List Int)⟩ :: ⟨_, true, .rep (eSl (eInt .i64)) A ([] : List Int)⟩ :: ⟨_, true, .rep (eSl (eInt .i64)) A ([] : List Int)⟩ :: ⟨_, true, .raw (.bool false)⟩ :: []) (tl := []) (by kernel_rfl) (by kernel_rfl) (by kernel_rfl) ?_ ?_
    · exact
        Obls.cons (Obl.plain rfl rfl fun R' w' hw hs hd => by exact of_build [] (E := eInt .i64) trivial Try.underlying33 Try.sizeOf3 Try.zeroValue3 rfl rfl rfl (hA.fr hw.size)) <|
        Obls.cons (Obl.plain rfl rfl fun R' w' hw hs hd => by exact of_build [] (E := eInt .i64) trivial Try.underlying33 Try.sizeOf3 Try.zeroValue3 rfl rfl rfl (hA.fr hw.size)) <|
        Obls.cons (Obl.plain rfl rfl fun R' w' hw hs hd => by have a0 : Rep (eSl (eInt .i64)) A w' (R' 80) ([] : List Int) := hd 0 _ _ _ rfl rfl rfl rfl rfl; exact of_assign a0) <|
        Obls.cons (Obl.plain rfl rfl fun R' w' hw hs hd => by have a0 : Rep (eSl (eInt .i64)) A w' (R' 81) ([] : List Int) := hd 0 _ _ _ rfl rfl rfl rfl rfl; exact of_assign a0) <|
        Obls.cons (Obl.plain rfl rfl fun R' w' hw hs hd => by exact of_assign rfl) <|
        Obls.nil
    intro R w hw hs hF'
    obtain ⟨u59, h2, f_u59⟩ : ∃ u, R 2 = u ∧ Rep (eSl (eInt .i64)) A w u ([] : List Int) := ⟨_, rfl, hF' 2 _ _ rfl rfl rfl⟩
    obtain ⟨u60, h3, f_u60⟩ : ∃ u, R 3 = u ∧ Rep (eSl (eInt .i64)) A w u ([] : List Int) := ⟨_, rfl, hF' 3 _ _ rfl rfl rfl⟩
    have h4 : R 4 = .bool false := hF' 4 _ _ rfl rfl rfl
    replace hO := hO.fr hw
    replace hA := hA.fr hw.size
    replace hF := hF.trans hw
    clear hs hF' hw
    refine seqR_nil ?_
    refine HT.ret ?_
    obtain rfl := Option.some.inj hr
    exact ⟨.inr rfl, [R 2, R 3, R 4], ⟨rfl, ⟨rfl, ⟨rfl, trivial⟩⟩⟩, ⟨_, _, _, rfl, (f_u59.eq h2).down hAA, (f_u60.eq h3).down hAA, h4⟩, hF⟩
def M_impl_within (fu : Nat) (p0 : Int) (p1 : Int) (p2 : Int) : Option Bool :=
  bd ((decide (p1 ≤ p0)) && (decide (p0 ≤ p2))) fun x1 =>
  some x1
set_option maxRecDepth 100000 in
set_option maxHeartbeats 4000000 in
theorem M_impl_within_ok {fu : Nat} {A : Av} {p0 : Int} {p1 : Int} {p2 : Int} {r : Bool} (hr : M_impl_within fu p0 p1 p2 = some r) {w : World} {v0 : Value} {v1 : Value} {v2 : Value} (hA : AvOK A w) (h0 : v0 = .int .i64 p0) (h1 : v1 = .int .i64 p1) (h2 : v2 = .int .i64 p2) :
    Calls Try.prog 60 #[v0, v1, v2] w fun e w' => ∃ v, e = .returned v ∧ (v = .bool r ∧ Fr w w') := by
  unfold M_impl_within at hr
  obtain ⟨w0, hw0⟩ : ∃ w0, w0 = w := ⟨_, rfl⟩
  have hF : Fr w0 w := hw0 ▸ Fr.refl _
  rw [show Fr w = Fr w0 from hw0 ▸ rfl]
  clear hw0
  refine calls_of_HT2 [.tmp 6] Try.func60 Try.ntmps60 (by decide) rfl rfl (Nat.le_of_ble_eq_true rfl) ?_
  intro R hR
  replace h0 : R 0 = .int .i64 p0 := (hR 0 _ rfl).trans h0
  replace h1 : R 1 = .int .i64 p1 := (hR 1 _ rfl).trans h1
  replace h2 : R 2 = .int .i64 p2 := (hR 2 _ rfl).trans h2
  clear hR
  refine HT.seq ?_
  refine HT.text (l := ⟨_, true, .raw (.bool false)⟩ :: []) (tl := []) (by kernel_rfl) (by kernel_rfl) (by kernel_rfl) ?_ ?_
  · exact
      Obls.cons (Obl.plain rfl rfl fun R' w' hw hs hd => by exact of_assign rfl) <|
      Obls.nil
  intro R w hw hs hF'
  replace h0 : R 0 = .int .i64 p0 := (hs 0 rfl).trans h0
  replace h1 : R 1 = .int .i64 p1 := (hs 1 rfl).trans h1
  replace h2 : R 2 = .int .i64 p2 := (hs 2 rfl).trans h2
  replace hA := hA.fr hw.size
  replace hF := hF.trans hw
  clear hs hF' hw
  refine seqR_nil ?_
  refine HT.seq ?_
  obtain ⟨x1, q2, hr⟩ := bd_some hr
  refine HT.text (l := ⟨_, true, .raw (.int .i64 p0)⟩ :: ⟨_, true, .raw (.int .i64 p1)⟩ :: ⟨_, true, .raw (.bool (decide (p1 ≤ p0)))⟩ :: ⟨_, true, .raw (.bool (decide (p1 ≤ p0)))⟩ :: ⟨_, (true && ((decide (p1 ≤ p0)) == true)), .raw (.int .i64 p0)⟩ :: ⟨_, (true && ((decide (p1 ≤ p0)) == true)), .raw (.int .i64 p2)⟩ :: ⟨_, (true && ((decide (p1 ≤ p0)) == true)), .raw (.bool (decide (p0 ≤ p2)))⟩ :: ⟨_, true, .raw (.bool x1)⟩ :: ⟨_, true, .raw (.bool x1)⟩ :: []) (tl := []) (by kernel_rfl) (by kernel_rfl) (by kernel_rfl) ?_ ?_
  · exact
      Obls.cons (Obl.plain rfl rfl fun R' w' hw hs hd => by have a0 : R' 0 = .int .i64 p0 := (hs 0 rfl).trans h0; exact of_move a0) <|
      Obls.cons (Obl.plain rfl rfl fun R' w' hw hs hd => by have a0 : R' 1 = .int .i64 p1 := (hs 1 rfl).trans h1; exact of_move a0) <|
      Obls.cons (Obl.plain rfl rfl fun R' w' hw hs hd => by have a0 : R' 7 = .int .i64 p0 := hd 0 _ _ _ rfl rfl rfl rfl rfl; have a1 : R' 8 = .int .i64 p1 := hd 1 _ _ _ rfl rfl rfl rfl rfl; exact of_geq a0 a1) <|
      Obls.cons (Obl.plain rfl rfl fun R' w' hw hs hd => by have a0 : R' 9 = .bool (decide (p1 ≤ p0)) := hd 0 _ _ _ rfl rfl rfl rfl rfl; exact of_move a0) <|
      Obls.cons (Obl.grd 3 true _ _ _ rfl rfl rfl rfl rfl (by kernel_rfl) fun hg R' w' hw hs hd => by have a0 : R' 0 = .int .i64 p0 := (hs 0 rfl).trans h0; exact of_move a0) <|
      Obls.cons (Obl.grd 3 true _ _ _ rfl rfl rfl rfl rfl (by kernel_rfl) fun hg R' w' hw hs hd => by have a0 : R' 2 = .int .i64 p2 := (hs 2 rfl).trans h2; exact of_move a0) <|
      Obls.cons (Obl.grd 3 true _ _ _ rfl rfl rfl rfl rfl (by kernel_rfl) fun hg R' w' hw hs hd => by have a0 : R' 11 = .int .i64 p0 := hd 0 _ _ _ rfl rfl rfl rfl hg; have a1 : R' 12 = .int .i64 p2 := hd 1 _ _ _ rfl rfl rfl rfl hg; exact of_leq a0 a1) <|
      Obls.cons (Obl.plain rfl rfl fun R' w' hw hs hd => by have a0 : R' 10 = .bool (decide (p1 ≤ p0)) := hd 0 _ _ _ rfl rfl rfl rfl rfl; exact of_pick (decide (p1 ≤ p0)) a0 (fun hc => by have a1 : R' 13 = .bool (decide (p0 ≤ p2)) := hd 1 _ _ _ rfl rfl rfl rfl (g_and rfl (beq_of hc)); show _ = Value.bool x1; rw [q2, hc]; exact a1) (fun hc => by show _ = Value.bool x1; rw [q2, hc]; exact rfl)) <|
      Obls.cons (Obl.plain rfl rfl fun R' w' hw hs hd => by have a0 : R' 14 = .bool x1 := hd 0 _ _ _ rfl rfl rfl rfl rfl; exact of_assign a0) <|
      Obls.nil
  intro R w hw hs hF'
  have h6 : R 6 = .bool x1 := hF' 8 _ _ rfl rfl rfl
  replace hA := hA.fr hw.size
  replace hF := hF.trans hw
  clear hs hF' hw
  refine seqR_nil ?_
  refine HT.ret ?_
  obtain rfl := Option.some.inj hr
  exact ⟨.inr rfl, [R 6], ⟨rfl, trivial⟩, h6, hF⟩
def M_impl_isFeature (fu : Nat) (p0 : Int) : Option Bool :=
  cl true (M_impl_within fu p0 (0 : Int) (5 : Int)) fun x1 =>
  some x1
set_option maxRecDepth 100000 in
set_option maxHeartbeats 4000000 in
theorem M_impl_isFeature_ok {fu : Nat} {A : Av} {p0 : Int} {r : Bool} (hr : M_impl_isFeature fu p0 = some r) {w : World} {v0 : Value} (hA : AvOK A w) (h0 : v0 = .int .i64 p0) :
    Calls Try.prog 61 #[v0] w fun e w' => ∃ v, e = .returned v ∧ (v = .bool r ∧ Fr w w') := by
  unfold M_impl_isFeature at hr
  obtain ⟨w0, hw0⟩ : ∃ w0, w0 = w := ⟨_, rfl⟩
  have hF : Fr w0 w := hw0 ▸ Fr.refl _
  rw [show Fr w = Fr w0 from hw0 ▸ rfl]
  clear hw0
  refine calls_of_HT2 [.tmp 2] Try.func61 Try.ntmps61 (by decide) rfl rfl (Nat.le_of_ble_eq_true rfl) ?_
  intro R hR
  replace h0 : R 0 = .int .i64 p0 := (hR 0 _ rfl).trans h0
  clear hR
  refine HT.seq ?_
  refine HT.text (l := ⟨_, true, .raw (.bool false)⟩ :: []) (tl := []) (by kernel_rfl) (by kernel_rfl) (by kernel_rfl) ?_ ?_
  · exact
      Obls.cons (Obl.plain rfl rfl fun R' w' hw hs hd => by exact of_assign rfl) <|
      Obls.nil
  intro R w hw hs hF'
  replace h0 : R 0 = .int .i64 p0 := (hs 0 rfl).trans h0
  replace hA := hA.fr hw.size
  replace hF := hF.trans hw
  clear hs hF' hw
  refine seqR_nil ?_
  refine HT.seq ?_
  obtain ⟨x1, q2, hr⟩ := cl_some hr
  refine HT.text (l := ⟨_, true, .raw (.int .i64 p0)⟩ :: ⟨_, true, .raw (.bool x1)⟩ :: ⟨_, true, .raw (.bool x1)⟩ :: []) (tl := []) (by kernel_rfl) (by kernel_rfl) (by kernel_rfl) ?_ ?_
  · exact
      Obls.cons (Obl.plain rfl rfl fun R' w' hw hs hd => by have a0 : R' 0 = .int .i64 p0 := (hs 0 rfl).trans h0; exact of_move a0) <|
      Obls.cons (Obl.plain rfl rfl fun R' w' hw hs hd => by have a0 : R' 3 = .int .i64 p0 := hd 0 _ _ _ rfl rfl rfl rfl rfl; exact of_call Try.call60 (M_impl_within_ok (q2 rfl) (hA.fr hw.size) a0 rfl rfl)) <|
      Obls.cons (Obl.plain rfl rfl fun R' w' hw hs hd => by have a0 : R' 4 = .bool x1 := hd 0 _ _ _ rfl rfl rfl rfl rfl; exact of_assign a0) <|
      Obls.nil
  intro R w hw hs hF'
  have h2 : R 2 = .bool x1 := hF' 2 _ _ rfl rfl rfl
  replace hA := hA.fr hw.size
  replace hF := hF.trans hw
  clear hs hF' hw
  refine seqR_nil ?_
  refine HT.ret ?_
  obtain rfl := Option.some.inj hr
  exact ⟨.inr rfl, [R 2], ⟨rfl, trivial⟩, h2, hF⟩
def M_impl_isThreshold (fu : Nat) (p0 : Int) : Option Bool :=
  cl true (M_impl_within fu p0 (1 : Int) (1000 : Int)) fun x1 =>
  some x1
set_option maxRecDepth 100000 in
set_option maxHeartbeats 4000000 in
theorem M_impl_isThreshold_ok {fu : Nat} {A : Av} {p0 : Int} {r : Bool} (hr : M_impl_isThreshold fu p0 = some r) {w : World} {v0 : Value} (hA : AvOK A w) (h0 : v0 = .int .i64 p0) :
    Calls Try.prog 62 #[v0] w fun e w' => ∃ v, e = .returned v ∧ (v = .bool r ∧ Fr w w') := by
  unfold M_impl_isThreshold at hr
  obtain ⟨w0, hw0⟩ : ∃ w0, w0 = w := ⟨_, rfl⟩
  have hF : Fr w0 w := hw0 ▸ Fr.refl _
  rw [show Fr w = Fr w0 from hw0 ▸ rfl]
  clear hw0
  refine calls_of_HT2 [.tmp 2] Try.func62 Try.ntmps62 (by decide) rfl rfl (Nat.le_of_ble_eq_true rfl) ?_
  intro R hR
  replace h0 : R 0 = .int .i64 p0 := (hR 0 _ rfl).trans h0
  clear hR
  refine HT.seq ?_
  refine HT.text (l := ⟨_, true, .raw (.bool false)⟩ :: []) (tl := []) (by kernel_rfl) (by kernel_rfl) (by kernel_rfl) ?_ ?_
  · exact
      Obls.cons (Obl.plain rfl rfl fun R' w' hw hs hd => by exact of_assign rfl) <|
      Obls.nil
  intro R w hw hs hF'
  replace h0 : R 0 = .int .i64 p0 := (hs 0 rfl).trans h0
  replace hA := hA.fr hw.size
  replace hF := hF.trans hw
  clear hs hF' hw
  refine seqR_nil ?_
  refine HT.seq ?_
  obtain ⟨x1, q2, hr⟩ := cl_some hr
  refine HT.text (l := ⟨_, true, .raw (.int .i64 p0)⟩ :: ⟨_, true, .raw (.bool x1)⟩ :: ⟨_, true, .raw (.bool x1)⟩ :: []) (tl := []) (by kernel_rfl) (by kernel_rfl) (by kernel_rfl) ?_ ?_
  · exact
      Obls.cons (Obl.plain rfl rfl fun R' w' hw hs hd => by have a0 : R' 0 = .int .i64 p0 := (hs 0 rfl).trans h0; exact of_move a0) <|
      Obls.cons (Obl.plain rfl rfl fun R' w' hw hs hd => by have a0 : R' 3 = .int .i64 p0 := hd 0 _ _ _ rfl rfl rfl rfl rfl; exact of_call Try.call60 (M_impl_within_ok (q2 rfl) (hA.fr hw.size) a0 rfl rfl)) <|
      Obls.cons (Obl.plain rfl rfl fun R' w' hw hs hd => by have a0 : R' 4 = .bool x1 := hd 0 _ _ _ rfl rfl rfl rfl rfl; exact of_assign a0) <|
      Obls.nil
  intro R w hw hs hF'
  have h2 : R 2 = .bool x1 := hF' 2 _ _ rfl rfl rfl
  replace hA := hA.fr hw.size
  replace hF := hF.trans hw
  clear hs hF' hw
  refine seqR_nil ?_
  refine HT.ret ?_
  obtain rfl := Option.some.inj hr
  exact ⟨.inr rfl, [R 2], ⟨rfl, trivial⟩, h2, hF⟩
def M_impl_IsValidRules_L1 (fu : Nat) (p0 : T_impl_RuleSet) (y6 : Int) : Nat → Int → Option (Ex Bool Unit)
  | 0, _ => none
  | k + 1, y19 =>
    bif (decide (y19 < ((gtD p0 y6).length : Int))) then (
      ck (inR y19 (gtD p0 y6).length) <|
      cl true (M_impl_isFeature fu ((gtD (gtD p0 y6) y19).1)) fun x26 =>
      cl (true && ((!x26) == false)) (M_impl_isThreshold fu ((gtD (gtD p0 y6) y19).2.1)) fun x28 =>
      bd ((!x26) || (!x28)) fun x30 =>
      ck (!((true && (x30 == false)) && ((decide ((0 : Int) < y19)) == true)) || i64B (y19 - (1 : Int))) <|
      ck (!((true && (x30 == false)) && ((decide ((0 : Int) < y19)) == true)) || inR (y19 - (1 : Int)) (gtD p0 y6).length) <|
      bd ((decide ((0 : Int) < y19)) && (decide (((gtD (gtD p0 y6) y19).1) ≤ ((gtD (gtD p0 y6) (y19 - (1 : Int))).1)))) fun x34 =>
      bd (x30 || x34) fun x36 =>
      bif x36 then (
        some (Ex.ret false)
      ) else (
        ck (i64B (y19 + (1 : Int))) <|
        M_impl_IsValidRules_L1 fu p0 y6 k (y19 + (1 : Int))
      )
    ) else (
      some (Ex.go ())
    )
def M_impl_IsValidRules_L0 (fu : Nat) (p0 : T_impl_RuleSet) : Nat → Int → Option (Ex Bool Unit)
  | 0, _ => none
  | k + 1, y6 =>
    bif (decide (y6 < (p0.length : Int))) then (
      ck (inR y6 p0.length) <|
      cl true (M_impl_within fu ((gtD p0 y6).length : Int) (1 : Int) (3 : Int)) fun x12 =>
      bif (!x12) then (
        some (Ex.ret false)
      ) else (
        cl true (M_impl_IsValidRules_L1 fu p0 y6 fu (0 : Int)) fun rl16 =>
        exM rl16 (fun r => some (Ex.ret r)) fun s18 =>
        ck (i64B (y6 + (1 : Int))) <|
        M_impl_IsValidRules_L0 fu p0 k (y6 + (1 : Int))
      )
    ) else (
      some (Ex.go ())
    )
def M_impl_IsValidRules (fu : Nat) (p0 : T_impl_RuleSet) : Option Bool :=
  cl true (M_impl_IsValidRules_L0 fu p0 fu (0 : Int)) fun rl3 =>
  exM rl3 (fun r => some r) fun s5 =>
  cl true (M_impl_within fu (p0.length : Int) (1 : Int) (3 : Int)) fun x41 =>
  some x41
set_option maxRecDepth 100000 in
set_option maxHeartbeats 4000000 in
theorem M_impl_IsValidRules_ok {fu : Nat} {A0 : Av} {p0 : T_impl_RuleSet} {r : Bool} (hr : M_impl_IsValidRules fu p0 = some r) {w : World} {v0 : Value} (hA : AvOK A0 w) (h0 : Rep E_impl_RuleSet A0 w v0 p0) :
    Calls Try.prog 34 #[v0] w fun e w' => ∃ v, e = .returned v ∧ (v = .bool r ∧ Fr w w') := by
  unfold M_impl_IsValidRules at hr
  obtain ⟨w0, hw0⟩ : ∃ w0, w0 = w := ⟨_, rfl⟩
  have hF : Fr w0 w := hw0 ▸ Fr.refl _
  have hA0 : ∀ b o, A0 b o → b < w0.heap.size := fun b o h => hw0 ▸ hA b o h
  have hA00 : AvOK A0 w0 := hA0
  rw [show Fr w = Fr w0 from hw0 ▸ rfl]
  clear hw0
  obtain ⟨A, hAe⟩ : ∃ A, A = A0 := ⟨_, rfl⟩
  have hAA : ∀ b o, A0 b o → A b o := fun b o h => hAe ▸ h
  replace hA : AvOK A w := hAe ▸ hA
  have hO : IniOK [] A w := IniOK.nil
  refine calls_of_HT2 [.tmp 2] Try.func34 Try.ntmps34 (by decide) rfl rfl (Nat.le_of_ble_eq_true rfl) ?_
  intro R hR
  have f_v0 : Rep E_impl_RuleSet A w v0 p0 := hAe ▸ h0
  replace h0 : R 0 = v0 := hR 0 _ rfl
  clear hR hAe
  refine HT.seq ?_
  refine HT.textR [] (⟨_, true, [], some (.box w0.heap.size 29 E_impl_RuleSet p0), true, fun A => .any⟩ :: ⟨_, true, [], none, true, fun A => .raw (.bool false)⟩ :: []) (by kernel_rfl) (by kernel_rfl) (Wf.mk' (by kernel_rfl) (UAll.cons ust_any (UAll.cons ust_raw (UAll.nil))) (by kernel_rfl) (by kernel_rfl)) hO hA ?_ ?_
  · exact
      OblsR.cons (OblR.made _ rfl rfl rfl rfl fun A' R' w' ho hd => by have a0 : R' 0 = v0 := (ho.old 0 rfl).trans h0; have ra0 := (f_v0.stp ho.stp).eq a0; exact made_box ra0 (Nat.le_trans hF.size ho.ch.size)) <|
      OblsR.cons (OblR.plain rfl rfl rfl rfl fun A' R' w' ho hd => by exact of_assign rfl) <|
      OblsR.nil
  intro done ρ σ A R w hdn hI
  obtain ⟨b1_0, e_b1_0⟩ := hI.boxv hdn 0 rfl rfl
  have h1 : R 1 = (.pointer (some ⟨b1_0, 0, none⟩)) := (hI.opvR hdn 0 0 rfl rfl rfl rfl rfl).symm.trans e_b1_0
  replace hAA := hI.low' hAA hA0 (hO.ge (trivial))
  replace hF : Fr w0 w := hF.tr hI.ch (hO.ge (trivial))
  replace hO : IniOK [ob (.pointer (some ⟨b1_0, 0, none⟩)) (.box w0.heap.size 29 E_impl_RuleSet p0)] A w := hI.left hdn [(0, ob (.pointer (some ⟨b1_0, 0, none⟩)) (.box w0.heap.size 29 E_impl_RuleSet p0))] ⟨rfl, rfl, e_b1_0, rfl, rfl, trivial⟩
  replace hA := hI.avok
  clear hI
  refine HT.seq ?_
  refine HT.seq ?_
  refine HT.text (l := ⟨_, true, .raw (.pointer (some ⟨b1_0, 0, none⟩))⟩ :: ⟨_, true, .rep (eSl E_impl_Rule) A p0⟩ :: ⟨_, true, .raw (.int .i64 (p0.length : Int))⟩ :: ⟨_, true, .raw (.int .i64 (0 : Int))⟩ :: []) (tl := []) (by kernel_rfl) (by kernel_rfl) (by kernel_rfl) ?_ ?_
  · exact
      Obls.cons (Obl.plain rfl rfl fun R' w' hw hs hd => by have a0 : R' 1 = (.pointer (some ⟨b1_0, 0, none⟩)) := (hs 1 rfl).trans h1; exact of_fieldAddr_raw a0 ff_29_0 Try.sizeOf27 (by decide) rfl) <|
      Obls.cons (Obl.plain rfl rfl fun R' w' hw hs hd => by have a0 : R' 7 = (.pointer (some ⟨b1_0, 0, none⟩)) := hd 0 _ _ _ rfl rfl rfl rfl rfl; exact (of_load_box ((hO.fr hw).ok 0 _ rfl).1 a0 fl_impl_RuleSet_0 rfl Try.isAgg27 Try.sizeOf27)) <|
      Obls.cons (Obl.plain rfl rfl fun R' w' hw hs hd => by have a0 : Rep (eSl E_impl_Rule) A w' (R' 8) p0 := hd 0 _ _ _ rfl rfl rfl rfl rfl; exact of_len_sl (aT := #[]) a0 Try.underlying27) <|
      Obls.cons (Obl.plain rfl rfl fun R' w' hw hs hd => by exact of_move rfl) <|
      Obls.nil
  intro R w hw hs hF'
  replace h1 : R 1 = (.pointer (some ⟨b1_0, 0, none⟩)) := (hs 1 rfl).trans h1
  obtain ⟨u2, h8, f_u2⟩ : ∃ u, R 8 = u ∧ Rep (eSl E_impl_Rule) A w u p0 := ⟨_, rfl, hF' 1 _ _ rfl rfl rfl⟩
  have h9 : R 9 = .int .i64 (p0.length : Int) := hF' 2 _ _ rfl rfl rfl
  have h10 : R 10 = .int .i64 (0 : Int) := hF' 3 _ _ rfl rfl rfl
  replace hO := hO.fr hw
  replace hA := hA.fr hw.size
  replace hF := hF.trans hw
  clear hs hF' hw
  refine seqR_nil ?_
  obtain ⟨rl3, q4, hr⟩ := cl_some hr
  replace q4 := q4 rfl
  refine HT.cut0 (fun R w => ∃ A : Av, ∃ (s5 : Unit), rl3 = Ex.go s5 ∧ AvOK A w ∧ Fr w0 w ∧ (∀ b o, A0 b o → A b o) ∧ IniOK [ob (.pointer (some ⟨b1_0, 0, none⟩)) (.box w0.heap.size 29 E_impl_RuleSet p0)] A w ∧ R 1 = (.pointer (some ⟨b1_0, 0, none⟩))) ?_ ?_
  · refine HT.block ?_
    refine HT.loop (fun k R w => ∃ A : Av, ∃ (y6 : Int), M_impl_IsValidRules_L0 fu p0 k y6 = some rl3 ∧ AvOK A w ∧ Fr w0 w ∧ (∀ b o, A0 b o → A b o) ∧ IniOK [ob (.pointer (some ⟨b1_0, 0, none⟩)) (.box w0.heap.size 29 E_impl_RuleSet p0)] A w ∧ R 1 = (.pointer (some ⟨b1_0, 0, none⟩)) ∧ R 8 = u2 ∧ R 9 = .int .i64 (p0.length : Int) ∧ R 10 = .int .i64 y6 ∧ Rep (eSl E_impl_Rule) A w u2 p0) fu ⟨_, _, q4, hA, hF, hAA, hO, h1, h8, h9, h10, f_u2⟩ ?_
    have hr0 := hr; clear hr q4
    rintro k R w ⟨A, y6, hr, hA, hF, hAA, hO, h1, h8, h9, h10, f_u2⟩
    rcases k with _ | k
    · cases (show none = some _ from hr)
    rw [M_impl_IsValidRules_L0] at hr
    refine HT.seq ?_
    refine HT.text (l := ⟨_, true, .raw (.bool (decide (y6 < (p0.length : Int))))⟩ :: []) (tl := []) (by kernel_rfl) (by kernel_rfl) (by kernel_rfl) ?_ ?_
    · exact
        Obls.cons (Obl.plain rfl rfl fun R' w' hw hs hd => by have a0 : R' 10 = .int .i64 y6 := (hs 10 rfl).trans h10; have a1 : R' 9 = .int .i64 (p0.length : Int) := (hs 9 rfl).trans h9; exact of_lss a0 a1) <|
        Obls.nil
    intro R w hw hs hF'
    replace h1 : R 1 = (.pointer (some ⟨b1_0, 0, none⟩)) := (hs 1 rfl).trans h1
    replace h8 : R 8 = u2 := (hs 8 rfl).trans h8
    replace h9 : R 9 = .int .i64 (p0.length : Int) := (hs 9 rfl).trans h9
    replace h10 : R 10 = .int .i64 y6 := (hs 10 rfl).trans h10
    have h11 : R 11 = .bool (decide (y6 < (p0.length : Int))) := hF' 0 _ _ rfl rfl rfl
    replace f_u2 := f_u2.fr hw
    replace hO := hO.fr hw
    replace hA := hA.fr hw.size
    replace hF := hF.trans hw
    clear hs hF' hw
    refine seqR_nil ?_
    refine HT.seq ?_
    refine HT.cond (decide (y6 < (p0.length : Int))) h11 (fun c7 => ?_) (fun c7 => ?_)
    · have hr := cnd_t c7 hr
      refine HT.skip ?_
      refine HT.seq ?_
      refine HT.block ?_
      refine HT.seq ?_
      obtain ⟨e8, hr⟩ := ck_some hr
      refine HT.textR [ob (.pointer (some ⟨b1_0, 0, none⟩)) (.box w0.heap.size 29 E_impl_RuleSet p0)] (⟨_, true, [], none, true, fun A => .qtr E_impl_Rule A (gtD p0 y6)⟩ :: ⟨_, true, [], none, true, fun A => .rep E_impl_Rule A (gtD p0 y6)⟩ :: ⟨_, true, [], some (.box w0.heap.size 79 E_impl_Rule ([] : List T_impl_Test)), true, fun A => .any⟩ :: ⟨_, true, [3], some (.box w0.heap.size 79 E_impl_Rule (gtD p0 y6)), false, fun A => .any⟩ :: []) (by kernel_rfl) (by kernel_rfl) (Wf.mk' (by kernel_rfl) (UAll.cons ust_qtr (UAll.cons ust_rep (UAll.cons ust_any (UAll.cons ust_any (UAll.nil))))) (by kernel_rfl) (by kernel_rfl)) hO hA ?_ ?_
      · exact
          OblsR.cons (OblR.plain rfl rfl rfl rfl fun A' R' w' ho hd => by have a0 : R' 8 = u2 := (ho.old 8 rfl).trans h8; have a1 : R' 10 = .int .i64 y6 := (ho.old 10 rfl).trans h10; have ra0 := (f_u2.stp ho.stp).eq a0; exact of_indexAddr ra0 a1 Try.underlying27 Try.sizeOf79 e8) <|
          OblsR.cons (OblR.plain rfl rfl rfl rfl fun A' R' w' ho hd => by have a0 : QRep E_impl_Rule A' w' (R' 12) (gtD p0 y6) := hd 0 _ _ _ rfl rfl rfl rfl rfl; exact (of_load a0.ptr Try.isAgg79 Try.sizeOf79)) <|
          OblsR.cons (OblR.made _ rfl rfl rfl rfl fun A' R' w' ho hd => by exact made_alloc Try.zeroValue79 (fun A w => rep1_nil) (Nat.le_trans hF.size ho.ch.size)) <|
          OblsR.cons (OblR.took 3 _ _ rfl rfl rfl rfl rfl fun A' R' w' ho hd u hok hav hin hop hds => by have a1 : Rep E_impl_Rule A' w' (R' 13) (gtD p0 y6) := hd 1 _ _ _ rfl rfl rfl rfl rfl; obtain ⟨b, hb, hB', hbx⟩ := hok; have hop' := hop _ _ rfl rfl rfl rfl; exact took_store a1 (hop'.symm.trans hb) hb ⟨b, hb, hB', hbx⟩ hav (FldS.id _) Try.sizeOf79 rfl) <|
          OblsR.nil
      intro done ρ σ A R w hdn hI
      replace h1 : R 1 = (.pointer (some ⟨b1_0, 0, none⟩)) := (hI.reg rfl).trans h1
      replace h8 : R 8 = u2 := (hI.reg rfl).trans h8
      replace h9 : R 9 = .int .i64 (p0.length : Int) := (hI.reg rfl).trans h9
      replace h10 : R 10 = .int .i64 y6 := (hI.reg rfl).trans h10
      have z9 := hI.inivR 0 rfl
      obtain ⟨b4_9, e_b4_9⟩ := hI.boxv hdn 4 rfl rfl
      have z11 := (hI.opnR hdn 4 3 rfl rfl rfl rfl rfl).symm.trans e_b4_9
      have h4 : R 4 = (.pointer (some ⟨b4_9, 0, none⟩)) := (hI.opvR hdn 3 2 rfl rfl rfl rfl rfl).symm.trans z11
      replace f_u2 := f_u2.stp hI.stp
      replace hAA := hI.low' hAA hA0 (hO.ge (⟨rfl, trivial⟩))
      replace hF : Fr w0 w := hF.tr hI.ch (hO.ge (⟨rfl, trivial⟩))
      replace hO : IniOK [ob (.pointer (some ⟨b1_0, 0, none⟩)) (.box w0.heap.size 29 E_impl_RuleSet p0), ob (.pointer (some ⟨b4_9, 0, none⟩)) (.box w0.heap.size 79 E_impl_Rule (gtD p0 y6))] A w := hI.left hdn [(0, ob (.pointer (some ⟨b1_0, 0, none⟩)) (.box w0.heap.size 29 E_impl_RuleSet p0)), (4, ob (.pointer (some ⟨b4_9, 0, none⟩)) (.box w0.heap.size 79 E_impl_Rule (gtD p0 y6)))] ⟨rfl, rfl, z9, rfl, rfl, ⟨rfl, rfl, e_b4_9, rfl, rfl, trivial⟩⟩
      replace hA := hI.avok
      clear hI
      refine HT.seq ?_
      refine HT.seq ?_
      obtain ⟨x12, q13, hr⟩ := cl_some hr
      refine HT.text (l := ⟨_, true, .raw (.pointer (some ⟨b4_9, 0, none⟩))⟩ :: ⟨_, true, .rep (eSl E_impl_Test) A (gtD p0 y6)⟩ :: ⟨_, true, .raw (.int .i64 ((gtD p0 y6).length : Int))⟩ :: ⟨_, true, .raw (.bool x12)⟩ :: ⟨_, true, .raw (.bool (!x12))⟩ :: []) (tl := []) (by kernel_rfl) (by kernel_rfl) (by kernel_rfl) ?_ ?_
      · exact
          Obls.cons (Obl.plain rfl rfl fun R' w' hw hs hd => by have a0 : R' 4 = (.pointer (some ⟨b4_9, 0, none⟩)) := (hs 4 rfl).trans h4; exact of_fieldAddr_raw a0 ff_79_0 Try.sizeOf65 (by decide) rfl) <|
          Obls.cons (Obl.plain rfl rfl fun R' w' hw hs hd => by have a0 : R' 14 = (.pointer (some ⟨b4_9, 0, none⟩)) := hd 0 _ _ _ rfl rfl rfl rfl rfl; exact (of_load_box ((hO.fr hw).ok 1 _ rfl).1 a0 fl_impl_Rule_0 rfl Try.isAgg65 Try.sizeOf65)) <|
          Obls.cons (Obl.plain rfl rfl fun R' w' hw hs hd => by have a0 : Rep (eSl E_impl_Test) A w' (R' 15) (gtD p0 y6) := hd 0 _ _ _ rfl rfl rfl rfl rfl; exact of_len_sl (aT := #[]) a0 Try.underlying65) <|
          Obls.cons (Obl.plain rfl rfl fun R' w' hw hs hd => by have a0 : R' 16 = .int .i64 ((gtD p0 y6).length : Int) := hd 0 _ _ _ rfl rfl rfl rfl rfl; exact of_call Try.call60 (M_impl_within_ok (q13 rfl) (hA.fr hw.size) a0 rfl rfl)) <|
          Obls.cons (Obl.plain rfl rfl fun R' w' hw hs hd => by have a0 : R' 17 = .bool x12 := hd 0 _ _ _ rfl rfl rfl rfl rfl; exact of_not a0) <|
          Obls.nil
      intro R w hw hs hF'
      replace h1 : R 1 = (.pointer (some ⟨b1_0, 0, none⟩)) := (hs 1 rfl).trans h1
      replace h4 : R 4 = (.pointer (some ⟨b4_9, 0, none⟩)) := (hs 4 rfl).trans h4
      replace h8 : R 8 = u2 := (hs 8 rfl).trans h8
      replace h9 : R 9 = .int .i64 (p0.length : Int) := (hs 9 rfl).trans h9
      replace h10 : R 10 = .int .i64 y6 := (hs 10 rfl).trans h10
      have h18 : R 18 = .bool (!x12) := hF' 4 _ _ rfl rfl rfl
      replace f_u2 := f_u2.fr hw
      replace hO := hO.fr hw
      replace hA := hA.fr hw.size
      replace hF := hF.trans hw
      clear hs hF' hw
      refine seqR_nil ?_
      refine HT.cond (!x12) h18 (fun c14 => ?_) (fun c14 => ?_)
      · have hr := cnd_t c14 hr
        refine HT.seq ?_
        refine HT.text (l := ⟨_, true, .raw (.bool false)⟩ :: []) (tl := []) (by kernel_rfl) (by kernel_rfl) (by kernel_rfl) ?_ ?_
        · exact
            Obls.cons (Obl.plain rfl rfl fun R' w' hw hs hd => by exact of_assign rfl) <|
            Obls.nil
        intro R w hw hs hF'
        have h2 : R 2 = .bool false := hF' 0 _ _ rfl rfl rfl
        replace hO := hO.fr hw
        replace hO : IniOK [] A w := hO.sub [] trivial
        replace hA := hA.fr hw.size
        replace hF := hF.trans hw
        clear hs hF' hw
        refine seqR_nil ?_
        refine HT.ret ?_
        obtain rfl := Option.some.inj hr
        have hr := hr0
        replace hr : some _ = some _ := hr
        obtain rfl := Option.some.inj hr
        exact ⟨.inr rfl, [R 2], ⟨rfl, trivial⟩, h2, hF⟩
      · have hr := cnd_f c14 hr
        refine HT.skip ?_
        refine HT.seq ?_
        refine HT.text (l := ⟨_, true, .raw (.pointer (some ⟨b4_9, 0, none⟩))⟩ :: ⟨_, true, .rep (eSl E_impl_Test) A (gtD p0 y6)⟩ :: ⟨_, true, .raw (.int .i64 ((gtD p0 y6).length : Int))⟩ :: ⟨_, true, .raw (.int .i64 (0 : Int))⟩ :: []) (tl := []) (by kernel_rfl) (by kernel_rfl) (by kernel_rfl) ?_ ?_
        · exact
            Obls.cons (Obl.plain rfl rfl fun R' w' hw hs hd => by have a0 : R' 4 = (.pointer (some ⟨b4_9, 0, none⟩)) := (hs 4 rfl).trans h4; exact of_fieldAddr_raw a0 ff_79_0 Try.sizeOf65 (by decide) rfl) <|
            Obls.cons (Obl.plain rfl rfl fun R' w' hw hs hd => by have a0 : R' 19 = (.pointer (some ⟨b4_9, 0, none⟩)) := hd 0 _ _ _ rfl rfl rfl rfl rfl; exact (of_load_box ((hO.fr hw).ok 1 _ rfl).1 a0 fl_impl_Rule_0 rfl Try.isAgg65 Try.sizeOf65)) <|
            Obls.cons (Obl.plain rfl rfl fun R' w' hw hs hd => by have a0 : Rep (eSl E_impl_Test) A w' (R' 20) (gtD p0 y6) := hd 0 _ _ _ rfl rfl rfl rfl rfl; exact of_len_sl (aT := #[]) a0 Try.underlying65) <|
            Obls.cons (Obl.plain rfl rfl fun R' w' hw hs hd => by exact of_move rfl) <|
            Obls.nil
        intro R w hw hs hF'
        replace h1 : R 1 = (.pointer (some ⟨b1_0, 0, none⟩)) := (hs 1 rfl).trans h1
        replace h4 : R 4 = (.pointer (some ⟨b4_9, 0, none⟩)) := (hs 4 rfl).trans h4
        replace h8 : R 8 = u2 := (hs 8 rfl).trans h8
        replace h9 : R 9 = .int .i64 (p0.length : Int) := (hs 9 rfl).trans h9
        replace h10 : R 10 = .int .i64 y6 := (hs 10 rfl).trans h10
        obtain ⟨u15, h20, f_u15⟩ : ∃ u, R 20 = u ∧ Rep (eSl E_impl_Test) A w u (gtD p0 y6) := ⟨_, rfl, hF' 1 _ _ rfl rfl rfl⟩
        have h21 : R 21 = .int .i64 ((gtD p0 y6).length : Int) := hF' 2 _ _ rfl rfl rfl
        have h22 : R 22 = .int .i64 (0 : Int) := hF' 3 _ _ rfl rfl rfl
        replace f_u2 := f_u2.fr hw
        replace hO := hO.fr hw
        replace hA := hA.fr hw.size
        replace hF := hF.trans hw
        clear hs hF' hw
        refine seqR_nil ?_
        obtain ⟨rl16, q17, hr⟩ := cl_some hr
        replace q17 := q17 rfl
        refine HT.cut0 (fun R w => ∃ A : Av, ∃ (s18 : Unit), rl16 = Ex.go s18 ∧ AvOK A w ∧ Fr w0 w ∧ (∀ b o, A0 b o → A b o) ∧ IniOK [ob (.pointer (some ⟨b1_0, 0, none⟩)) (.box w0.heap.size 29 E_impl_RuleSet p0)] A w ∧ R 1 = (.pointer (some ⟨b1_0, 0, none⟩)) ∧ R 8 = u2 ∧ R 9 = .int .i64 (p0.length : Int) ∧ R 10 = .int .i64 y6 ∧ Rep (eSl E_impl_Rule) A w u2 p0) ?_ ?_
        · refine HT.block ?_
          refine HT.loop (fun k R w => ∃ A : Av, ∃ (y19 : Int), M_impl_IsValidRules_L1 fu p0 y6 k y19 = some rl16 ∧ AvOK A w ∧ Fr w0 w ∧ (∀ b o, A0 b o → A b o) ∧ IniOK [ob (.pointer (some ⟨b1_0, 0, none⟩)) (.box w0.heap.size 29 E_impl_RuleSet p0), ob (.pointer (some ⟨b4_9, 0, none⟩)) (.box w0.heap.size 79 E_impl_Rule (gtD p0 y6))] A w ∧ R 1 = (.pointer (some ⟨b1_0, 0, none⟩)) ∧ R 4 = (.pointer (some ⟨b4_9, 0, none⟩)) ∧ R 8 = u2 ∧ R 9 = .int .i64 (p0.length : Int) ∧ R 10 = .int .i64 y6 ∧ R 20 = u15 ∧ R 21 = .int .i64 ((gtD p0 y6).length : Int) ∧ R 22 = .int .i64 y19 ∧ Rep (eSl E_impl_Test) A w u15 (gtD p0 y6) ∧ Rep (eSl E_impl_Rule) A w u2 p0) fu ⟨_, _, q17, hA, hF, hAA, hO, h1, h4, h8, h9, h10, h20, h21, h22, f_u15, f_u2⟩ ?_
          have hr1 := hr; clear hr q17
          rintro k R w ⟨A, y19, hr, hA, hF, hAA, hO, h1, h4, h8, h9, h10, h20, h21, h22, f_u15, f_u2⟩
          rcases k with _ | k
          · cases (show none = some _ from hr)
          rw [M_impl_IsValidRules_L1] at hr
          refine HT.seq ?_
          refine HT.text (l := ⟨_, true, .raw (.bool (decide (y19 < ((gtD p0 y6).length : Int))))⟩ :: []) (tl := []) (by kernel_rfl) (by kernel_rfl) (by kernel_rfl) ?_ ?_
          · exact
              Obls.cons (Obl.plain rfl rfl fun R' w' hw hs hd => by have a0 : R' 22 = .int .i64 y19 := (hs 22 rfl).trans h22; have a1 : R' 21 = .int .i64 ((gtD p0 y6).length : Int) := (hs 21 rfl).trans h21; exact of_lss a0 a1) <|
              Obls.nil
          intro R w hw hs hF'
          replace h1 : R 1 = (.pointer (some ⟨b1_0, 0, none⟩)) := (hs 1 rfl).trans h1
          replace h4 : R 4 = (.pointer (some ⟨b4_9, 0, none⟩)) := (hs 4 rfl).trans h4
          replace h8 : R 8 = u2 := (hs 8 rfl).trans h8
          replace h9 : R 9 = .int .i64 (p0.length : Int) := (hs 9 rfl).trans h9
          replace h10 : R 10 = .int .i64 y6 := (hs 10 rfl).trans h10
          replace h20 : R 20 = u15 := (hs 20 rfl).trans h20
          replace h21 : R 21 = .int .i64 ((gtD p0 y6).length : Int) := (hs 21 rfl).trans h21
          replace h22 : R 22 = .int .i64 y19 := (hs 22 rfl).trans h22
          have h23 : R 23 = .bool (decide (y19 < ((gtD p0 y6).length : Int))) := hF' 0 _ _ rfl rfl rfl
          replace f_u15 := f_u15.fr hw
          replace f_u2 := f_u2.fr hw
          replace hO := hO.fr hw
          replace hA := hA.fr hw.size
          replace hF := hF.trans hw
          clear hs hF' hw
          refine seqR_nil ?_
          refine HT.seq ?_
          refine HT.cond (decide (y19 < ((gtD p0 y6).length : Int))) h23 (fun c20 => ?_) (fun c20 => ?_)
          · have hr := cnd_t c20 hr
            refine HT.skip ?_
            refine HT.seq ?_
            refine HT.block ?_
            refine HT.seq ?_
            obtain ⟨e21, hr⟩ := ck_some hr
            refine HT.textR [ob (.pointer (some ⟨b1_0, 0, none⟩)) (.box w0.heap.size 29 E_impl_RuleSet p0), ob (.pointer (some ⟨b4_9, 0, none⟩)) (.box w0.heap.size 79 E_impl_Rule (gtD p0 y6))] (⟨_, true, [], none, true, fun A => .raw (.int .i64 y19)⟩ :: ⟨_, true, [], none, true, fun A => .qtr E_impl_Test A (gtD (gtD p0 y6) y19)⟩ :: ⟨_, true, [], none, true, fun A => .rep E_impl_Test A (gtD (gtD p0 y6) y19)⟩ :: ⟨_, true, [], some (.box w0.heap.size 82 E_impl_Test ((0 : Int), ((0 : Int), false))), true, fun A => .any⟩ :: ⟨_, true, [], none, true, fun A => .raw (.int .i64 y19)⟩ :: ⟨_, true, [5], some (.box w0.heap.size 82 E_impl_Test (gtD (gtD p0 y6) y19)), false, fun A => .any⟩ :: []) (by kernel_rfl) (by kernel_rfl) (Wf.mk' (by kernel_rfl) (UAll.cons ust_raw (UAll.cons ust_qtr (UAll.cons ust_rep (UAll.cons ust_any (UAll.cons ust_raw (UAll.cons ust_any (UAll.nil))))))) (by kernel_rfl) (by kernel_rfl)) hO hA ?_ ?_
            · exact
                OblsR.cons (OblR.plain rfl rfl rfl rfl fun A' R' w' ho hd => by have a0 : R' 22 = .int .i64 y19 := (ho.old 22 rfl).trans h22; exact of_move a0) <|
                OblsR.cons (OblR.plain rfl rfl rfl rfl fun A' R' w' ho hd => by have a0 : R' 20 = u15 := (ho.old 20 rfl).trans h20; have a1 : R' 22 = .int .i64 y19 := (ho.old 22 rfl).trans h22; have ra0 := (f_u15.stp ho.stp).eq a0; exact of_indexAddr ra0 a1 Try.underlying65 Try.sizeOf82 e21) <|
                OblsR.cons (OblR.plain rfl rfl rfl rfl fun A' R' w' ho hd => by have a0 : QRep E_impl_Test A' w' (R' 25) (gtD (gtD p0 y6) y19) := hd 0 _ _ _ rfl rfl rfl rfl rfl; exact (of_load a0.ptr Try.isAgg82 Try.sizeOf82)) <|
                OblsR.cons (OblR.made _ rfl rfl rfl rfl fun A' R' w' ho hd => by exact made_alloc Try.zeroValue82 (fun A w => rep_pr rep1_int (rep_pr rep1_int rep1_bool)) (Nat.le_trans hF.size ho.ch.size)) <|
                OblsR.cons (OblR.plain rfl rfl rfl rfl fun A' R' w' ho hd => by have a0 : R' 24 = .int .i64 y19 := hd 0 _ _ _ rfl rfl rfl rfl rfl; exact of_assign a0) <|
                OblsR.cons (OblR.took 5 _ _ rfl rfl rfl rfl rfl fun A' R' w' ho hd u hok hav hin hop hds => by have a1 : Rep E_impl_Test A' w' (R' 26) (gtD (gtD p0 y6) y19) := hd 1 _ _ _ rfl rfl rfl rfl rfl; obtain ⟨b, hb, hB', hbx⟩ := hok; have hop' := hop _ _ rfl rfl rfl rfl; exact took_store a1 (hop'.symm.trans hb) hb ⟨b, hb, hB', hbx⟩ hav (FldS.id _) Try.sizeOf82 rfl) <|
                OblsR.nil
            intro done ρ σ A R w hdn hI
            replace h1 : R 1 = (.pointer (some ⟨b1_0, 0, none⟩)) := (hI.reg rfl).trans h1
            replace h4 : R 4 = (.pointer (some ⟨b4_9, 0, none⟩)) := (hI.reg rfl).trans h4
            replace h8 : R 8 = u2 := (hI.reg rfl).trans h8
            replace h9 : R 9 = .int .i64 (p0.length : Int) := (hI.reg rfl).trans h9
            replace h10 : R 10 = .int .i64 y6 := (hI.reg rfl).trans h10
            replace h20 : R 20 = u15 := (hI.reg rfl).trans h20
            replace h21 : R 21 = .int .i64 ((gtD p0 y6).length : Int) := (hI.reg rfl).trans h21
            replace h22 : R 22 = .int .i64 y19 := (hI.reg rfl).trans h22
            have z22 := hI.inivR 0 rfl
            have z23 := hI.inivR 1 rfl
            obtain ⟨b6_23, e_b6_23⟩ := hI.boxv hdn 7 rfl rfl
            have z25 := (hI.opnR hdn 7 5 rfl rfl rfl rfl rfl).symm.trans e_b6_23
            have h6 : R 6 = (.pointer (some ⟨b6_23, 0, none⟩)) := (hI.opvR hdn 5 3 rfl rfl rfl rfl rfl).symm.trans z25
            have h5 : R 5 = .int .i64 y19 := hI.fact hdn (i := 4) rfl rfl rfl
            replace f_u15 := f_u15.stp hI.stp
            replace f_u2 := f_u2.stp hI.stp
            replace hAA := hI.low' hAA hA0 (hO.ge (⟨rfl, ⟨rfl, trivial⟩⟩))
            replace hF : Fr w0 w := hF.tr hI.ch (hO.ge (⟨rfl, ⟨rfl, trivial⟩⟩))
            replace hO : IniOK [ob (.pointer (some ⟨b1_0, 0, none⟩)) (.box w0.heap.size 29 E_impl_RuleSet p0), ob (.pointer (some ⟨b4_9, 0, none⟩)) (.box w0.heap.size 79 E_impl_Rule (gtD p0 y6)), ob (.pointer (some ⟨b6_23, 0, none⟩)) (.box w0.heap.size 82 E_impl_Test (gtD (gtD p0 y6) y19))] A w := hI.left hdn [(0, ob (.pointer (some ⟨b1_0, 0, none⟩)) (.box w0.heap.size 29 E_impl_RuleSet p0)), (1, ob (.pointer (some ⟨b4_9, 0, none⟩)) (.box w0.heap.size 79 E_impl_Rule (gtD p0 y6))), (7, ob (.pointer (some ⟨b6_23, 0, none⟩)) (.box w0.heap.size 82 E_impl_Test (gtD (gtD p0 y6) y19)))] ⟨rfl, rfl, z22, rfl, rfl, ⟨rfl, rfl, z23, rfl, rfl, ⟨rfl, rfl, e_b6_23, rfl, rfl, trivial⟩⟩⟩
            replace hA := hI.avok
            clear hI
            refine HT.seq ?_
            obtain ⟨x26, q27, hr⟩ := cl_some hr
            obtain ⟨x28, q29, hr⟩ := cl_some hr
            obtain ⟨x30, q31, hr⟩ := bd_some hr
            obtain ⟨e32, hr⟩ := ck_some hr
            obtain ⟨e33, hr⟩ := ck_some hr
            obtain ⟨x34, q35, hr⟩ := bd_some hr
            obtain ⟨x36, q37, hr⟩ := bd_some hr
            refine HT.draw (by kernel_rfl) (l := ⟨_, true, .raw (.pointer (some ⟨b6_23, 0, none⟩))⟩ :: ⟨_, true, .raw (.int .i64 ((gtD (gtD p0 y6) y19).1))⟩ :: ⟨_, true, .raw (.bool x26)⟩ :: ⟨_, true, .raw (.bool (!x26))⟩ :: ⟨_, true, .raw (.bool (!x26))⟩ :: ⟨_, (true && ((!x26) == false)), .raw (.pointer (some ⟨b6_23, 1, none⟩))⟩ :: ⟨_, (true && ((!x26) == false)), .raw (.int .i64 ((gtD (gtD p0 y6) y19).2.1))⟩ :: ⟨_, (true && ((!x26) == false)), .raw (.bool x28)⟩ :: ⟨_, (true && ((!x26) == false)), .raw (.bool (!x28))⟩ :: ⟨_, true, .raw (.bool x30)⟩ :: ⟨_, true, .raw (.bool x30)⟩ :: ⟨_, (true && (x30 == false)), .raw (.int .i64 y19)⟩ :: ⟨_, (true && (x30 == false)), .raw (.bool (decide ((0 : Int) < y19)))⟩ :: ⟨_, (true && (x30 == false)), .raw (.bool (decide ((0 : Int) < y19)))⟩ :: ⟨_, ((true && (x30 == false)) && ((decide ((0 : Int) < y19)) == true)), .raw (.pointer (some ⟨b4_9, 0, none⟩))⟩ :: ⟨_, ((true && (x30 == false)) && ((decide ((0 : Int) < y19)) == true)), .rep (eSl E_impl_Test) A (gtD p0 y6)⟩ :: ⟨_, ((true && (x30 == false)) && ((decide ((0 : Int) < y19)) == true)), .raw (.int .i64 y19)⟩ :: ⟨_, ((true && (x30 == false)) && ((decide ((0 : Int) < y19)) == true)), .raw (.int .i64 (y19 - (1 : Int)))⟩ :: ⟨_, ((true && (x30 == false)) && ((decide ((0 : Int) < y19)) == true)), .qtr E_impl_Test A (gtD (gtD p0 y6) (y19 - (1 : Int)))⟩ :: ⟨_, ((true && (x30 == false)) && ((decide ((0 : Int) < y19)) == true)), .qtr (eInt .i64) A ((gtD (gtD p0 y6) (y19 - (1 : Int))).1)⟩ :: ⟨_, ((true && (x30 == false)) && ((decide ((0 : Int) < y19)) == true)), .raw (.int .i64 ((gtD (gtD p0 y6) (y19 - (1 : Int))).1))⟩ :: ⟨_, ((true && (x30 == false)) && ((decide ((0 : Int) < y19)) == true)), .raw (.pointer (some ⟨b6_23, 0, none⟩))⟩ :: ⟨_, ((true && (x30 == false)) && ((decide ((0 : Int) < y19)) == true)), .raw (.int .i64 ((gtD (gtD p0 y6) y19).1))⟩ :: ⟨_, ((true && (x30 == false)) && ((decide ((0 : Int) < y19)) == true)), .raw (.bool (decide (((gtD (gtD p0 y6) y19).1) ≤ ((gtD (gtD p0 y6) (y19 - (1 : Int))).1))))⟩ :: ⟨_, (true && (x30 == false)), .raw (.bool x34)⟩ :: ⟨_, true, .raw (.bool x36)⟩ :: []) (tl := []) (by kernel_rfl) (by kernel_rfl) (by kernel_rfl) (by kernel_rfl) ?_ ?_
            · exact
                Obls.cons (Obl.plain rfl rfl fun R' w' hw hs hd => by have a0 : R' 6 = (.pointer (some ⟨b6_23, 0, none⟩)) := (hs 6 rfl).trans h6; exact of_fieldAddr_raw a0 ff_82_0 Try.sizeOf3 (by decide) rfl) <|
                Obls.cons (Obl.plain rfl rfl fun R' w' hw hs hd => by have a0 : R' 27 = (.pointer (some ⟨b6_23, 0, none⟩)) := hd 0 _ _ _ rfl rfl rfl rfl rfl; exact OpF.int (of_load_box ((hO.fr hw).ok 2 _ rfl).1 a0 fl_impl_Test_0 rfl Try.isAgg3 Try.sizeOf3)) <|
                Obls.cons (Obl.plain rfl rfl fun R' w' hw hs hd => by have a0 : R' 28 = .int .i64 ((gtD (gtD p0 y6) y19).1) := hd 0 _ _ _ rfl rfl rfl rfl rfl; exact of_call Try.call61 (M_impl_isFeature_ok (q27 rfl) (hA.fr hw.size) a0)) <|
                Obls.cons (Obl.plain rfl rfl fun R' w' hw hs hd => by have a0 : R' 29 = .bool x26 := hd 0 _ _ _ rfl rfl rfl rfl rfl; exact of_not a0) <|
                Obls.cons (Obl.plain rfl rfl fun R' w' hw hs hd => by have a0 : R' 30 = .bool (!x26) := hd 0 _ _ _ rfl rfl rfl rfl rfl; exact of_move a0) <|
                Obls.cons (Obl.grd 4 false _ _ _ rfl rfl rfl rfl rfl (by kernel_rfl) fun hg R' w' hw hs hd => by have a0 : R' 6 = (.pointer (some ⟨b6_23, 0, none⟩)) := (hs 6 rfl).trans h6; exact of_fieldAddr_raw a0 ff_82_1 Try.sizeOf3 (by decide) rfl) <|
                Obls.cons (Obl.grd 4 false _ _ _ rfl rfl rfl rfl rfl (by kernel_rfl) fun hg R' w' hw hs hd => by have a0 : R' 32 = (.pointer (some ⟨b6_23, 1, none⟩)) := hd 0 _ _ _ rfl rfl rfl rfl hg; exact OpF.int (of_load_box ((hO.fr hw).ok 2 _ rfl).1 a0 fl_impl_Test_1 rfl Try.isAgg3 Try.sizeOf3)) <|
                Obls.cons (Obl.grd 4 false _ _ _ rfl rfl rfl rfl rfl (by kernel_rfl) fun hg R' w' hw hs hd => by have a0 : R' 33 = .int .i64 ((gtD (gtD p0 y6) y19).2.1) := hd 0 _ _ _ rfl rfl rfl rfl hg; exact of_call Try.call62 (M_impl_isThreshold_ok (q29 hg) (hA.fr hw.size) a0)) <|
                Obls.cons (Obl.grd 4 false _ _ _ rfl rfl rfl rfl rfl (by kernel_rfl) fun hg R' w' hw hs hd => by have a0 : R' 34 = .bool x28 := hd 0 _ _ _ rfl rfl rfl rfl hg; exact of_not a0) <|
                Obls.cons (Obl.plain rfl rfl fun R' w' hw hs hd => by have a0 : R' 31 = .bool (!x26) := hd 0 _ _ _ rfl rfl rfl rfl rfl; exact of_pick (!x26) a0 (fun hc => by show _ = Value.bool x30; rw [q31, hc]; exact rfl) (fun hc => by have a2 : R' 35 = .bool (!x28) := hd 1 _ _ _ rfl rfl rfl rfl (g_and rfl (beq_of hc)); show _ = Value.bool x30; rw [q31, hc]; exact a2)) <|
                Obls.cons (Obl.plain rfl rfl fun R' w' hw hs hd => by have a0 : R' 36 = .bool x30 := hd 0 _ _ _ rfl rfl rfl rfl rfl; exact of_move a0) <|
                Obls.cons (Obl.grd 10 false _ _ _ rfl rfl rfl rfl rfl (by kernel_rfl) fun hg R' w' hw hs hd => by have a0 : R' 5 = .int .i64 y19 := (hs 5 rfl).trans h5; exact of_move a0) <|
                Obls.cons (Obl.grd 10 false _ _ _ rfl rfl rfl rfl rfl (by kernel_rfl) fun hg R' w' hw hs hd => by have a0 : R' 38 = .int .i64 y19 := hd 0 _ _ _ rfl rfl rfl rfl hg; exact of_gtr a0 rfl) <|
                Obls.cons (Obl.grd 10 false _ _ _ rfl rfl rfl rfl rfl (by kernel_rfl) fun hg R' w' hw hs hd => by have a0 : R' 39 = .bool (decide ((0 : Int) < y19)) := hd 0 _ _ _ rfl rfl rfl rfl hg; exact of_move a0) <|
                Obls.cons (Obl.grd 13 true _ _ _ rfl rfl rfl rfl rfl (by kernel_rfl) fun hg R' w' hw hs hd => by have a0 : R' 4 = (.pointer (some ⟨b4_9, 0, none⟩)) := (hs 4 rfl).trans h4; exact of_fieldAddr_raw a0 ff_79_0 Try.sizeOf65 (by decide) rfl) <|
                Obls.cons (Obl.grd 13 true _ _ _ rfl rfl rfl rfl rfl (by kernel_rfl) fun hg R' w' hw hs hd => by have a0 : R' 41 = (.pointer (some ⟨b4_9, 0, none⟩)) := hd 0 _ _ _ rfl rfl rfl rfl hg; exact (of_load_box ((hO.fr hw).ok 1 _ rfl).1 a0 fl_impl_Rule_0 rfl Try.isAgg65 Try.sizeOf65)) <|
                Obls.cons (Obl.grd 13 true _ _ _ rfl rfl rfl rfl rfl (by kernel_rfl) fun hg R' w' hw hs hd => by have a0 : R' 5 = .int .i64 y19 := (hs 5 rfl).trans h5; exact of_move a0) <|
                Obls.cons (Obl.grd 13 true _ _ _ rfl rfl rfl rfl rfl (by kernel_rfl) fun hg R' w' hw hs hd => by have a0 : R' 43 = .int .i64 y19 := hd 0 _ _ _ rfl rfl rfl rfl hg; exact of_sub a0 rfl (gd e32 hg)) <|
                Obls.cons (Obl.grd 13 true _ _ _ rfl rfl rfl rfl rfl (by kernel_rfl) fun hg R' w' hw hs hd => by have a0 : Rep (eSl E_impl_Test) A w' (R' 42) (gtD p0 y6) := hd 0 _ _ _ rfl rfl rfl rfl hg; have a1 : R' 44 = .int .i64 (y19 - (1 : Int)) := hd 1 _ _ _ rfl rfl rfl rfl hg; exact of_indexAddr a0 a1 Try.underlying65 Try.sizeOf82 (gd e33 hg)) <|
                Obls.cons (Obl.grd 13 true _ _ _ rfl rfl rfl rfl rfl (by kernel_rfl) fun hg R' w' hw hs hd => by have a0 : QRep E_impl_Test A w' (R' 45) (gtD (gtD p0 y6) (y19 - (1 : Int))) := hd 0 _ _ _ rfl rfl rfl rfl hg; exact of_fieldAddr_q a0 ff_82_0 Try.sizeOf3 (by decide) fl_impl_Test_0 rfl) <|
                Obls.cons (Obl.grd 13 true _ _ _ rfl rfl rfl rfl rfl (by kernel_rfl) fun hg R' w' hw hs hd => by have a0 : QRep (eInt .i64) A w' (R' 46) ((gtD (gtD p0 y6) (y19 - (1 : Int))).1) := hd 0 _ _ _ rfl rfl rfl rfl hg; exact OpF.int (of_load a0.ptr Try.isAgg3 Try.sizeOf3)) <|
                Obls.cons (Obl.grd 13 true _ _ _ rfl rfl rfl rfl rfl (by kernel_rfl) fun hg R' w' hw hs hd => by have a0 : R' 6 = (.pointer (some ⟨b6_23, 0, none⟩)) := (hs 6 rfl).trans h6; exact of_fieldAddr_raw a0 ff_82_0 Try.sizeOf3 (by decide) rfl) <|
                Obls.cons (Obl.grd 13 true _ _ _ rfl rfl rfl rfl rfl (by kernel_rfl) fun hg R' w' hw hs hd => by have a0 : R' 48 = (.pointer (some ⟨b6_23, 0, none⟩)) := hd 0 _ _ _ rfl rfl rfl rfl hg; exact OpF.int (of_load_box ((hO.fr hw).ok 2 _ rfl).1 a0 fl_impl_Test_0 rfl Try.isAgg3 Try.sizeOf3)) <|
                Obls.cons (Obl.grd 13 true _ _ _ rfl rfl rfl rfl rfl (by kernel_rfl) fun hg R' w' hw hs hd => by have a0 : R' 47 = .int .i64 ((gtD (gtD p0 y6) (y19 - (1 : Int))).1) := hd 0 _ _ _ rfl rfl rfl rfl hg; have a1 : R' 49 = .int .i64 ((gtD (gtD p0 y6) y19).1) := hd 1 _ _ _ rfl rfl rfl rfl hg; exact of_geq a0 a1) <|
                Obls.cons (Obl.grd 10 false _ _ _ rfl rfl rfl rfl rfl (by kernel_rfl) fun hg R' w' hw hs hd => by have a0 : R' 40 = .bool (decide ((0 : Int) < y19)) := hd 0 _ _ _ rfl rfl rfl rfl hg; exact of_pick (decide ((0 : Int) < y19)) a0 (fun hc => by have a1 : R' 50 = .bool (decide (((gtD (gtD p0 y6) y19).1) ≤ ((gtD (gtD p0 y6) (y19 - (1 : Int))).1))) := hd 1 _ _ _ rfl rfl rfl rfl (g_and hg (beq_of hc)); show _ = Value.bool x34; rw [q35, hc]; exact a1) (fun hc => by show _ = Value.bool x34; rw [q35, hc]; exact rfl)) <|
                Obls.cons (Obl.plain rfl rfl fun R' w' hw hs hd => by have a0 : R' 37 = .bool x30 := hd 0 _ _ _ rfl rfl rfl rfl rfl; exact of_pick x30 a0 (fun hc => by show _ = Value.bool x36; rw [q37, hc]; exact rfl) (fun hc => by have a2 : R' 51 = .bool x34 := hd 1 _ _ _ rfl rfl rfl rfl (g_and rfl (beq_of hc)); show _ = Value.bool x36; rw [q37, hc]; exact a2)) <|
                Obls.nil
            intro R w hw hs hF'
            replace h1 : R 1 = (.pointer (some ⟨b1_0, 0, none⟩)) := (hs 1 rfl).trans h1
            replace h4 : R 4 = (.pointer (some ⟨b4_9, 0, none⟩)) := (hs 4 rfl).trans h4
            replace h8 : R 8 = u2 := (hs 8 rfl).trans h8
            replace h9 : R 9 = .int .i64 (p0.length : Int) := (hs 9 rfl).trans h9
            replace h10 : R 10 = .int .i64 y6 := (hs 10 rfl).trans h10
            replace h20 : R 20 = u15 := (hs 20 rfl).trans h20
            replace h21 : R 21 = .int .i64 ((gtD p0 y6).length : Int) := (hs 21 rfl).trans h21
            replace h22 : R 22 = .int .i64 y19 := (hs 22 rfl).trans h22
            have h52 : R 52 = .bool x36 := hF' 25 _ _ rfl rfl rfl
            replace f_u15 := f_u15.fr hw
            replace f_u2 := f_u2.fr hw
            replace hO := hO.fr hw
            replace hO : IniOK [ob (.pointer (some ⟨b1_0, 0, none⟩)) (.box w0.heap.size 29 E_impl_RuleSet p0), ob (.pointer (some ⟨b4_9, 0, none⟩)) (.box w0.heap.size 79 E_impl_Rule (gtD p0 y6))] A w := hO.sub [(0, ob (.pointer (some ⟨b1_0, 0, none⟩)) (.box w0.heap.size 29 E_impl_RuleSet p0)), (1, ob (.pointer (some ⟨b4_9, 0, none⟩)) (.box w0.heap.size 79 E_impl_Rule (gtD p0 y6)))] ⟨rfl, rfl, ⟨rfl, rfl, trivial⟩⟩
            replace hA := hA.fr hw.size
            replace hF := hF.trans hw
            clear hs hF' hw
            refine seqR_nil ?_
            refine HT.cond x36 h52 (fun c38 => ?_) (fun c38 => ?_)
            · have hr := cnd_t c38 hr
              refine HT.seq ?_
              refine HT.text (l := ⟨_, true, .raw (.bool false)⟩ :: []) (tl := []) (by kernel_rfl) (by kernel_rfl) (by kernel_rfl) ?_ ?_
              · exact
                  Obls.cons (Obl.plain rfl rfl fun R' w' hw hs hd => by exact of_assign rfl) <|
                  Obls.nil
              intro R w hw hs hF'
              have h2 : R 2 = .bool false := hF' 0 _ _ rfl rfl rfl
              replace hO := hO.fr hw
              replace hO : IniOK [] A w := hO.sub [] trivial
              replace hA := hA.fr hw.size
              replace hF := hF.trans hw
              clear hs hF' hw
              refine seqR_nil ?_
              refine HT.ret ?_
              obtain rfl := Option.some.inj hr
              have hr := hr1
              replace hr : some _ = some _ := hr
              obtain rfl := Option.some.inj hr
              have hr := hr0
              replace hr : some _ = some _ := hr
              obtain rfl := Option.some.inj hr
              exact ⟨.inr rfl, [R 2], ⟨rfl, trivial⟩, h2, hF⟩
            · have hr := cnd_f c38 hr
              refine HT.skip ?_
              obtain ⟨e39, hr⟩ := ck_some hr
              refine HT.text (l := ⟨_, true, .raw (.int .i64 (y19 + (1 : Int)))⟩ :: ⟨_, true, .raw (.int .i64 (y19 + (1 : Int)))⟩ :: []) (tl := []) (by kernel_rfl) (by kernel_rfl) (by kernel_rfl) ?_ ?_
              · exact
                  Obls.cons (Obl.plain rfl rfl fun R' w' hw hs hd => by have a0 : R' 22 = .int .i64 y19 := (hs 22 rfl).trans h22; exact of_add a0 rfl e39) <|
                  Obls.cons (Obl.plain rfl rfl fun R' w' hw hs hd => by have a0 : R' 53 = .int .i64 (y19 + (1 : Int)) := hd 0 _ _ _ rfl rfl rfl rfl rfl; exact of_move a0) <|
                  Obls.nil
              intro R w hw hs hF'
              replace h1 : R 1 = (.pointer (some ⟨b1_0, 0, none⟩)) := (hs 1 rfl).trans h1
              replace h4 : R 4 = (.pointer (some ⟨b4_9, 0, none⟩)) := (hs 4 rfl).trans h4
              replace h8 : R 8 = u2 := (hs 8 rfl).trans h8
              replace h9 : R 9 = .int .i64 (p0.length : Int) := (hs 9 rfl).trans h9
              replace h10 : R 10 = .int .i64 y6 := (hs 10 rfl).trans h10
              replace h20 : R 20 = u15 := (hs 20 rfl).trans h20
              replace h21 : R 21 = .int .i64 ((gtD p0 y6).length : Int) := (hs 21 rfl).trans h21
              have h22 : R 22 = .int .i64 (y19 + (1 : Int)) := hF' 1 _ _ rfl rfl rfl
              replace f_u15 := f_u15.fr hw
              replace f_u2 := f_u2.fr hw
              replace hO := hO.fr hw
              replace hA := hA.fr hw.size
              replace hF := hF.trans hw
              clear hs hF' hw
              refine seqR_nil ?_
              exact Exists.intro k (And.intro (Nat.lt_succ_self k) ⟨_, _, hr, hA, hF, hAA, hO, h1, h4, h8, h9, h10, h20, h21, h22, f_u15, f_u2⟩)
          · have hr := cnd_f c20 hr
            refine HT.exit ?_
            obtain rfl := Option.some.inj hr
            replace hO : IniOK [ob (.pointer (some ⟨b1_0, 0, none⟩)) (.box w0.heap.size 29 E_impl_RuleSet p0)] A w := hO.sub [(0, ob (.pointer (some ⟨b1_0, 0, none⟩)) (.box w0.heap.size 29 E_impl_RuleSet p0))] ⟨rfl, rfl, trivial⟩
            exact Exists.intro _ ⟨_, rfl, hA, hF, hAA, hO, h1, h8, h9, h10, f_u2⟩
        rintro R w ⟨A, s18, rfl, hA, hF, hAA, hO, h1, h8, h9, h10, f_u2⟩
        have hr := exM_go hr
        obtain ⟨e40, hr⟩ := ck_some hr
        refine HT.text (l := ⟨_, true, .raw (.int .i64 (y6 + (1 : Int)))⟩ :: ⟨_, true, .raw (.int .i64 (y6 + (1 : Int)))⟩ :: []) (tl := []) (by kernel_rfl) (by kernel_rfl) (by kernel_rfl) ?_ ?_
        · exact
            Obls.cons (Obl.plain rfl rfl fun R' w' hw hs hd => by have a0 : R' 10 = .int .i64 y6 := (hs 10 rfl).trans h10; exact of_add a0 rfl e40) <|
            Obls.cons (Obl.plain rfl rfl fun R' w' hw hs hd => by have a0 : R' 54 = .int .i64 (y6 + (1 : Int)) := hd 0 _ _ _ rfl rfl rfl rfl rfl; exact of_move a0) <|
            Obls.nil
        intro R w hw hs hF'
        replace h1 : R 1 = (.pointer (some ⟨b1_0, 0, none⟩)) := (hs 1 rfl).trans h1
        replace h8 : R 8 = u2 := (hs 8 rfl).trans h8
        replace h9 : R 9 = .int .i64 (p0.length : Int) := (hs 9 rfl).trans h9
        have h10 : R 10 = .int .i64 (y6 + (1 : Int)) := hF' 1 _ _ rfl rfl rfl
        replace f_u2 := f_u2.fr hw
        replace hO := hO.fr hw
        replace hA := hA.fr hw.size
        replace hF := hF.trans hw
        clear hs hF' hw
        refine seqR_nil ?_
        exact Exists.intro k (And.intro (Nat.lt_succ_self k) ⟨_, _, hr, hA, hF, hAA, hO, h1, h8, h9, h10, f_u2⟩)
    · have hr := cnd_f c7 hr
      refine HT.exit ?_
      obtain rfl := Option.some.inj hr
      exact Exists.intro _ ⟨_, rfl, hA, hF, hAA, hO, h1⟩
  rintro R w ⟨A, s5, rfl, hA, hF, hAA, hO, h1⟩
  have hr := exM_go hr
  refine HT.seq ?_
  obtain ⟨x41, q42, hr⟩ := cl_some hr
  refine HT.text (l := ⟨_, true, .raw (.pointer (some ⟨b1_0, 0, none⟩))⟩ :: ⟨_, true, .rep (eSl E_impl_Rule) A p0⟩ :: ⟨_, true, .raw (.int .i64 (p0.length : Int))⟩ :: ⟨_, true, .raw (.bool x41)⟩ :: ⟨_, true, .raw (.bool x41)⟩ :: []) (tl := []) (by kernel_rfl) (by kernel_rfl) (by kernel_rfl) ?_ ?_
  · exact
      Obls.cons (Obl.plain rfl rfl fun R' w' hw hs hd => by have a0 : R' 1 = (.pointer (some ⟨b1_0, 0, none⟩)) := (hs 1 rfl).trans h1; exact of_fieldAddr_raw a0 ff_29_0 Try.sizeOf27 (by decide) rfl) <|
      Obls.cons (Obl.plain rfl rfl fun R' w' hw hs hd => by have a0 : R' 55 = (.pointer (some ⟨b1_0, 0, none⟩)) := hd 0 _ _ _ rfl rfl rfl rfl rfl; exact (of_load_box ((hO.fr hw).ok 0 _ rfl).1 a0 fl_impl_RuleSet_0 rfl Try.isAgg27 Try.sizeOf27)) <|
      Obls.cons (Obl.plain rfl rfl fun R' w' hw hs hd => by have a0 : Rep (eSl E_impl_Rule) A w' (R' 56) p0 := hd 0 _ _ _ rfl rfl rfl rfl rfl; exact of_len_sl (aT := #[]) a0 Try.underlying27) <|
      Obls.cons (Obl.plain rfl rfl fun R' w' hw hs hd => by have a0 : R' 57 = .int .i64 (p0.length : Int) := hd 0 _ _ _ rfl rfl rfl rfl rfl; exact of_call Try.call60 (M_impl_within_ok (q42 rfl) (hA.fr hw.size) a0 rfl rfl)) <|
      Obls.cons (Obl.plain rfl rfl fun R' w' hw hs hd => by have a0 : R' 58 = .bool x41 := hd 0 _ _ _ rfl rfl rfl rfl rfl; exact of_assign a0) <|
      Obls.nil
  intro R w hw hs hF'
  have h2 : R 2 = .bool x41 := hF' 4 _ _ rfl rfl rfl
  replace hO := hO.fr hw
  replace hO : IniOK [] A w := hO.sub [] trivial
  replace hA := hA.fr hw.size
  replace hF := hF.trans hw
  clear hs hF' hw
  refine seqR_nil ?_
  refine HT.ret ?_
  obtain rfl := Option.some.inj hr
  exact ⟨.inr rfl, [R 2], ⟨rfl, trivial⟩, h2, hF⟩
end Go.Proofs.Ytmkgocdgkdglnaa
