/- Printed by dec.py: plain functions and the proofs that the code computes them. No statement of the seat is proved here. -/
import Derived.Test.YtjfhlhhobpdneaaV5
namespace Go.Proofs.Ytjfhlhhobpdneaa
open Go.RowKit
set_option linter.unusedVariables false
def M_spec_TestsEvaluated (fu : Nat) (p0 : T_impl_Diagram) (p1 : List Int) : Option Int :=
  cl true (M_spec_IsValidDiagram fu p0) fun x2 =>
  cl (true && ((!x2) == false)) (M_spec_IsFeatureVector fu p1) fun x4 =>
  bd ((!x2) || (!x4)) fun x6 =>
  bif x6 then (
    some (0 : Int)
  ) else (
    cl true (M_spec_l15Walk fu p0 p1) fun x9 =>
    some x9.2
  )
set_option maxRecDepth 100000 in
set_option maxHeartbeats 4000000 in
theorem M_spec_TestsEvaluated_ok {fu : Nat} {A0 : Av} {p0 : T_impl_Diagram} {p1 : List Int} {r : Int} (hr : M_spec_TestsEvaluated fu p0 p1 = some r) {w : World} {v0 : Value} {v1 : Value} (hA : AvOK A0 w) (h0 : Rep E_impl_Diagram A0 w v0 p0) (h1 : Rep (eSl (eInt .i64)) A0 w v1 p1) :
    Calls Try.prog 39 #[v0, v1] w fun e w' => ∃ v, e = .returned v ∧ (v = .int .i64 r ∧ Fr w w') := by
  unfold M_spec_TestsEvaluated at hr
  obtain ⟨w0, hw0⟩ : ∃ w0, w0 = w := ⟨_, rfl⟩
  have hF : Fr w0 w := hw0 ▸ Fr.refl _
  have hA0 : ∀ b o, A0 b o → b < w0.heap.size := fun b o h => hw0 ▸ hA b o h
  have hA00 : AvOK A0 w0 := hA0
  rw [show Fr w = Fr w0 from hw0 ▸ rfl]
  clear hw0
  obtain ⟨A, hAe⟩ : ∃ A, A = A0 := ⟨_, rfl⟩
  have hAA : ∀ b o, A0 b o → A b o := fun b o h => hAe ▸ h
  replace hA : AvOK A w := hAe ▸ hA
  have hO : IniOK [] A w := IniOK.nil
  refine calls_of_HT2 [.tmp 4] Try.func39 Try.ntmps39 (by decide) rfl rfl (Nat.le_of_ble_eq_true rfl) ?_
  intro R hR
  have f_v0 : Rep E_impl_Diagram A w v0 p0 := hAe ▸ h0
  replace h0 : R 0 = v0 := hR 0 _ rfl
  have f_v1 : Rep (eSl (eInt .i64)) A w v1 p1 := hAe ▸ h1
  replace h1 : R 1 = v1 := hR 1 _ rfl
  clear hR hAe
  refine HT.seq ?_
  refine HT.textR [] (⟨_, true, none, some (.box w0.heap.size 43 E_impl_Diagram p0), true, fun A => .any⟩ :: ⟨_, true, none, none, true, fun A => .raw (.int .i64 (0 : Int))⟩ :: []) (by kernel_rfl) (by kernel_rfl) (Wf.mk' (by kernel_rfl) (UAll.cons ust_any (UAll.cons ust_raw (UAll.nil))) (by kernel_rfl) (by kernel_rfl)) hO hA ?_ ?_
  · exact
      OblsR.cons (OblR.made _ rfl rfl rfl rfl fun A' R' w' ho hd => by have a0 : R' 0 = v0 := (ho.old 0 rfl).trans h0; have ra0 := (f_v0.stp ho.stp).eq a0; exact made_box ra0 (Nat.le_trans hF.size ho.ch.size)) <|
      OblsR.cons (OblR.plain rfl rfl rfl rfl fun A' R' w' ho hd => by exact of_assign rfl) <|
      OblsR.nil
  intro done ρ A R w hdn hI
  replace h1 : R 1 = v1 := (hI.reg rfl).trans h1
  obtain ⟨b2_0, e_b2_0⟩ := hI.boxv hdn 0 rfl rfl
  have h2 : R 2 = (.pointer (some ⟨b2_0, 0, none⟩)) := (hI.opvR hdn 0 0 rfl rfl rfl rfl rfl).symm.trans e_b2_0
  replace f_v1 := f_v1.stp hI.stp
  replace hAA := hI.low' hAA hA0 (hO.ge (trivial))
  replace hF : Fr w0 w := Below.trans hF (hI.ch.below hF.size (hO.ge (trivial)))
  replace hO : IniOK [((.pointer (some ⟨b2_0, 0, none⟩)), .box w0.heap.size 43 E_impl_Diagram p0)] A w := hI.left hdn [(0, (.pointer (some ⟨b2_0, 0, none⟩)), .box w0.heap.size 43 E_impl_Diagram p0)] ⟨rfl, rfl, e_b2_0, rfl, trivial⟩
  replace hA := hI.avok
  clear hI
  refine HT.seq ?_
  refine HT.seq ?_
  obtain ⟨x2, q3, hr⟩ := cl_some hr
  obtain ⟨x4, q5, hr⟩ := cl_some hr
  obtain ⟨x6, q7, hr⟩ := bd_some hr
  refine HT.text (l := ⟨_, true, .rep E_impl_Diagram A p0⟩ :: ⟨_, true, .raw (.bool x2)⟩ :: ⟨_, true, .raw (.bool (!x2))⟩ :: ⟨_, true, .raw (.bool (!x2))⟩ :: ⟨_, (true && ((!x2) == false)), .raw v1⟩ :: ⟨_, (true && ((!x2) == false)), .raw (.bool x4)⟩ :: ⟨_, (true && ((!x2) == false)), .raw (.bool (!x4))⟩ :: ⟨_, true, .raw (.bool x6)⟩ :: []) (tl := []) (by kernel_rfl) (by kernel_rfl) (by kernel_rfl) ?_ ?_
  · exact
      Obls.cons (Obl.plain rfl rfl fun R' w' hw hs hd => by have a0 : R' 2 = (.pointer (some ⟨b2_0, 0, none⟩)) := (hs 2 rfl).trans h2; exact (of_load_box ((hO.fr hw).ok 0 _ rfl).1 a0 (Fld.id _) rfl Try.isAgg43 Try.sizeOf43)) <|
      Obls.cons (Obl.plain rfl rfl fun R' w' hw hs hd => by have a0 : Rep E_impl_Diagram A w' (R' 7) p0 := hd 0 _ _ _ rfl rfl rfl rfl rfl; exact of_call Try.call23 (M_spec_IsValidDiagram_ok (q3 rfl) (hA.fr hw.size) a0)) <|
      Obls.cons (Obl.plain rfl rfl fun R' w' hw hs hd => by have a0 : R' 8 = .bool x2 := hd 0 _ _ _ rfl rfl rfl rfl rfl; exact of_not a0) <|
      Obls.cons (Obl.plain rfl rfl fun R' w' hw hs hd => by have a0 : R' 9 = .bool (!x2) := hd 0 _ _ _ rfl rfl rfl rfl rfl; exact of_move a0) <|
      Obls.cons (Obl.grd 3 false _ _ _ rfl rfl rfl rfl rfl (by kernel_rfl) fun hg R' w' hw hs hd => by have a0 : R' 1 = v1 := (hs 1 rfl).trans h1; exact of_move a0) <|
      Obls.cons (Obl.grd 3 false _ _ _ rfl rfl rfl rfl rfl (by kernel_rfl) fun hg R' w' hw hs hd => by have a0 : R' 11 = v1 := hd 0 _ _ _ rfl rfl rfl rfl hg; have ra0 := (f_v1.fr hw).eq a0; exact of_call Try.call63 (M_spec_IsFeatureVector_ok (q5 hg) (hA.fr hw.size) ra0)) <|
      Obls.cons (Obl.grd 3 false _ _ _ rfl rfl rfl rfl rfl (by kernel_rfl) fun hg R' w' hw hs hd => by have a0 : R' 12 = .bool x4 := hd 0 _ _ _ rfl rfl rfl rfl hg; exact of_not a0) <|
      Obls.cons (Obl.plain rfl rfl fun R' w' hw hs hd => by have a0 : R' 10 = .bool (!x2) := hd 0 _ _ _ rfl rfl rfl rfl rfl; exact of_pick (!x2) a0 (fun hc => by show _ = Value.bool x6; rw [q7, hc]; exact rfl) (fun hc => by have a2 : R' 13 = .bool (!x4) := hd 1 _ _ _ rfl rfl rfl rfl (g_and rfl (beq_of hc)); show _ = Value.bool x6; rw [q7, hc]; exact a2)) <|
      Obls.nil
  intro R w hw hs hF'
  replace h1 : R 1 = v1 := (hs 1 rfl).trans h1
  replace h2 : R 2 = (.pointer (some ⟨b2_0, 0, none⟩)) := (hs 2 rfl).trans h2
  have h14 : R 14 = .bool x6 := hF' 7 _ _ rfl rfl rfl
  replace f_v1 := f_v1.fr hw
  replace hO := hO.fr hw
  replace hA := hA.fr hw.size
  replace hF := hF.trans hw
  clear hs hF' hw
  refine seqR_nil ?_
  refine HT.cond x6 h14 (fun c8 => ?_) (fun c8 => ?_)
  · have hr := cnd_t c8 hr
    refine HT.seq ?_
    refine HT.text (l := ⟨_, true, .raw (.int .i64 (0 : Int))⟩ :: []) (tl := []) (by kernel_rfl) (by kernel_rfl) (by kernel_rfl) ?_ ?_
    · exact
        Obls.cons (Obl.plain rfl rfl fun R' w' hw hs hd => by exact of_assign rfl) <|
        Obls.nil
    intro R w hw hs hF'
    have h4 : R 4 = .int .i64 (0 : Int) := hF' 0 _ _ rfl rfl rfl
    replace hO := hO.fr hw
    replace hO : IniOK [] A w := hO.sub [] trivial
    replace hA := hA.fr hw.size
    replace hF := hF.trans hw
    clear hs hF' hw
    refine seqR_nil ?_
    refine HT.ret ?_
    obtain rfl := Option.some.inj hr
    exact ⟨.inr rfl, [R 4], ⟨rfl, trivial⟩, h4, hF⟩
  · have hr := cnd_f c8 hr
    refine HT.skip ?_
    refine HT.seq ?_
    obtain ⟨x9, q10, hr⟩ := cl_some hr
    refine HT.text (l := ⟨_, true, .rep E_impl_Diagram A p0⟩ :: ⟨_, true, .raw v1⟩ :: ⟨_, true, .tup2 (.raw (.int .i64 x9.1)) (.raw (.int .i64 x9.2))⟩ :: ⟨_, true, .tup2 (.raw (.int .i64 x9.1)) (.raw (.int .i64 x9.2))⟩ :: ⟨_, true, .raw (.int .i64 x9.1)⟩ :: ⟨_, true, .raw (.int .i64 x9.2)⟩ :: ⟨_, true, .raw (.int .i64 x9.1)⟩ :: ⟨_, true, .raw (.int .i64 x9.2)⟩ :: []) (tl := []) (by kernel_rfl) (by kernel_rfl) (by kernel_rfl) ?_ ?_
    · exact
        Obls.cons (Obl.plain rfl rfl fun R' w' hw hs hd => by have a0 : R' 2 = (.pointer (some ⟨b2_0, 0, none⟩)) := (hs 2 rfl).trans h2; exact (of_load_box ((hO.fr hw).ok 0 _ rfl).1 a0 (Fld.id _) rfl Try.isAgg43 Try.sizeOf43)) <|
        Obls.cons (Obl.plain rfl rfl fun R' w' hw hs hd => by have a0 : R' 1 = v1 := (hs 1 rfl).trans h1; exact of_move a0) <|
        Obls.cons (Obl.plain rfl rfl fun R' w' hw hs hd => by have a0 : Rep E_impl_Diagram A w' (R' 16) p0 := hd 0 _ _ _ rfl rfl rfl rfl rfl; have a1 : R' 17 = v1 := hd 1 _ _ _ rfl rfl rfl rfl rfl; have ra1 := (f_v1.fr hw).eq a1; exact of_call Try.call87 (M_spec_l15Walk_ok (q10 rfl) (hA.fr hw.size) a0 ra1)) <|
        Obls.cons (Obl.plain rfl rfl fun R' w' hw hs hd => by have a0 : Fact.ok (.tup2 (.raw (.int .i64 x9.1)) (.raw (.int .i64 x9.2))) (R' 18) w' := hd 0 _ _ _ rfl rfl rfl rfl rfl; exact of_move a0) <|
        Obls.cons (Obl.plain rfl rfl fun R' w' hw hs hd => by have a0 : Fact.ok (.tup2 (.raw (.int .i64 x9.1)) (.raw (.int .i64 x9.2))) (R' 15) w' := hd 0 _ _ _ rfl rfl rfl rfl rfl; exact of_extract2_0 a0) <|
        Obls.cons (Obl.plain rfl rfl fun R' w' hw hs hd => by have a0 : Fact.ok (.tup2 (.raw (.int .i64 x9.1)) (.raw (.int .i64 x9.2))) (R' 15) w' := hd 0 _ _ _ rfl rfl rfl rfl rfl; exact of_extract2_1 a0) <|
        Obls.cons (Obl.plain rfl rfl fun R' w' hw hs hd => by have a0 : R' 19 = .int .i64 x9.1 := hd 0 _ _ _ rfl rfl rfl rfl rfl; exact of_assign a0) <|
        Obls.cons (Obl.plain rfl rfl fun R' w' hw hs hd => by have a0 : R' 20 = .int .i64 x9.2 := hd 0 _ _ _ rfl rfl rfl rfl rfl; exact of_assign a0) <|
        Obls.nil
    intro R w hw hs hF'
    have h6 : R 6 = .int .i64 x9.2 := hF' 7 _ _ rfl rfl rfl
    replace hO := hO.fr hw
    replace hO : IniOK [] A w := hO.sub [] trivial
    replace hA := hA.fr hw.size
    replace hF := hF.trans hw
    clear hs hF' hw
    refine seqR_nil ?_
    refine HT.seq ?_
    refine HT.text (l := ⟨_, true, .raw (.int .i64 x9.2)⟩ :: ⟨_, true, .raw (.int .i64 x9.2)⟩ :: []) (tl := []) (by kernel_rfl) (by kernel_rfl) (by kernel_rfl) ?_ ?_
    · exact
        Obls.cons (Obl.plain rfl rfl fun R' w' hw hs hd => by have a0 : R' 6 = .int .i64 x9.2 := (hs 6 rfl).trans h6; exact of_move a0) <|
        Obls.cons (Obl.plain rfl rfl fun R' w' hw hs hd => by have a0 : R' 21 = .int .i64 x9.2 := hd 0 _ _ _ rfl rfl rfl rfl rfl; exact of_assign a0) <|
        Obls.nil
    intro R w hw hs hF'
    have h4 : R 4 = .int .i64 x9.2 := hF' 1 _ _ rfl rfl rfl
    replace hO := hO.fr hw
    replace hA := hA.fr hw.size
    replace hF := hF.trans hw
    clear hs hF' hw
    refine seqR_nil ?_
    refine HT.ret ?_
    obtain rfl := Option.some.inj hr
    exact ⟨.inr rfl, [R 4], ⟨rfl, trivial⟩, h4, hF⟩
def M_impl_TestsEvaluated (fu : Nat) (p0 : T_impl_Diagram) (p1 : List Int) : Option Int :=
  cl true (M_impl_IsValidDiagram fu p0) fun x2 =>
  cl (true && ((!x2) == false)) (M_impl_IsFeatureVector fu p1) fun x4 =>
  bd ((!x2) || (!x4)) fun x6 =>
  bif x6 then (
    some (0 : Int)
  ) else (
    cl true (M_impl_Diagram_follow fu p0 p1) fun x9 =>
    some x9.2
  )
set_option maxRecDepth 100000 in
set_option maxHeartbeats 4000000 in
theorem M_impl_TestsEvaluated_ok {fu : Nat} {A0 : Av} {p0 : T_impl_Diagram} {p1 : List Int} {r : Int} (hr : M_impl_TestsEvaluated fu p0 p1 = some r) {w : World} {v0 : Value} {v1 : Value} (hA : AvOK A0 w) (h0 : Rep E_impl_Diagram A0 w v0 p0) (h1 : Rep (eSl (eInt .i64)) A0 w v1 p1) :
    Calls Try.prog 40 #[v0, v1] w fun e w' => ∃ v, e = .returned v ∧ (v = .int .i64 r ∧ Fr w w') := by
  unfold M_impl_TestsEvaluated at hr
  obtain ⟨w0, hw0⟩ : ∃ w0, w0 = w := ⟨_, rfl⟩
  have hF : Fr w0 w := hw0 ▸ Fr.refl _
  have hA0 : ∀ b o, A0 b o → b < w0.heap.size := fun b o h => hw0 ▸ hA b o h
  have hA00 : AvOK A0 w0 := hA0
  rw [show Fr w = Fr w0 from hw0 ▸ rfl]
  clear hw0
  obtain ⟨A, hAe⟩ : ∃ A, A = A0 := ⟨_, rfl⟩
  have hAA : ∀ b o, A0 b o → A b o := fun b o h => hAe ▸ h
  replace hA : AvOK A w := hAe ▸ hA
  have hO : IniOK [] A w := IniOK.nil
  refine calls_of_HT2 [.tmp 4] Try.func40 Try.ntmps40 (by decide) rfl rfl (Nat.le_of_ble_eq_true rfl) ?_
  intro R hR
  have f_v0 : Rep E_impl_Diagram A w v0 p0 := hAe ▸ h0
  replace h0 : R 0 = v0 := hR 0 _ rfl
  have f_v1 : Rep (eSl (eInt .i64)) A w v1 p1 := hAe ▸ h1
  replace h1 : R 1 = v1 := hR 1 _ rfl
  clear hR hAe
  refine HT.seq ?_
  refine HT.textR [] (⟨_, true, none, some (.box w0.heap.size 43 E_impl_Diagram p0), true, fun A => .any⟩ :: ⟨_, true, none, none, true, fun A => .raw (.int .i64 (0 : Int))⟩ :: []) (by kernel_rfl) (by kernel_rfl) (Wf.mk' (by kernel_rfl) (UAll.cons ust_any (UAll.cons ust_raw (UAll.nil))) (by kernel_rfl) (by kernel_rfl)) hO hA ?_ ?_
  · exact
      OblsR.cons (OblR.made _ rfl rfl rfl rfl fun A' R' w' ho hd => by have a0 : R' 0 = v0 := (ho.old 0 rfl).trans h0; have ra0 := (f_v0.stp ho.stp).eq a0; exact made_box ra0 (Nat.le_trans hF.size ho.ch.size)) <|
      OblsR.cons (OblR.plain rfl rfl rfl rfl fun A' R' w' ho hd => by exact of_assign rfl) <|
      OblsR.nil
  intro done ρ A R w hdn hI
  replace h1 : R 1 = v1 := (hI.reg rfl).trans h1
  obtain ⟨b2_0, e_b2_0⟩ := hI.boxv hdn 0 rfl rfl
  have h2 : R 2 = (.pointer (some ⟨b2_0, 0, none⟩)) := (hI.opvR hdn 0 0 rfl rfl rfl rfl rfl).symm.trans e_b2_0
  replace f_v1 := f_v1.stp hI.stp
  replace hAA := hI.low' hAA hA0 (hO.ge (trivial))
  replace hF : Fr w0 w := Below.trans hF (hI.ch.below hF.size (hO.ge (trivial)))
  replace hO : IniOK [((.pointer (some ⟨b2_0, 0, none⟩)), .box w0.heap.size 43 E_impl_Diagram p0)] A w := hI.left hdn [(0, (.pointer (some ⟨b2_0, 0, none⟩)), .box w0.heap.size 43 E_impl_Diagram p0)] ⟨rfl, rfl, e_b2_0, rfl, trivial⟩
  replace hA := hI.avok
  clear hI
  refine HT.seq ?_
  refine HT.seq ?_
  obtain ⟨x2, q3, hr⟩ := cl_some hr
  obtain ⟨x4, q5, hr⟩ := cl_some hr
  obtain ⟨x6, q7, hr⟩ := bd_some hr
  refine HT.text (l := ⟨_, true, .rep E_impl_Diagram A p0⟩ :: ⟨_, true, .raw (.bool x2)⟩ :: ⟨_, true, .raw (.bool (!x2))⟩ :: ⟨_, true, .raw (.bool (!x2))⟩ :: ⟨_, (true && ((!x2) == false)), .raw v1⟩ :: ⟨_, (true && ((!x2) == false)), .raw (.bool x4)⟩ :: ⟨_, (true && ((!x2) == false)), .raw (.bool (!x4))⟩ :: ⟨_, true, .raw (.bool x6)⟩ :: []) (tl := []) (by kernel_rfl) (by kernel_rfl) (by kernel_rfl) ?_ ?_
  · exact
      Obls.cons (Obl.plain rfl rfl fun R' w' hw hs hd => by have a0 : R' 2 = (.pointer (some ⟨b2_0, 0, none⟩)) := (hs 2 rfl).trans h2; exact (of_load_box ((hO.fr hw).ok 0 _ rfl).1 a0 (Fld.id _) rfl Try.isAgg43 Try.sizeOf43)) <|
      Obls.cons (Obl.plain rfl rfl fun R' w' hw hs hd => by have a0 : Rep E_impl_Diagram A w' (R' 7) p0 := hd 0 _ _ _ rfl rfl rfl rfl rfl; exact of_call Try.call25 (M_impl_IsValidDiagram_ok (q3 rfl) (hA.fr hw.size) a0)) <|
      Obls.cons (Obl.plain rfl rfl fun R' w' hw hs hd => by have a0 : R' 8 = .bool x2 := hd 0 _ _ _ rfl rfl rfl rfl rfl; exact of_not a0) <|
      Obls.cons (Obl.plain rfl rfl fun R' w' hw hs hd => by have a0 : R' 9 = .bool (!x2) := hd 0 _ _ _ rfl rfl rfl rfl rfl; exact of_move a0) <|
      Obls.cons (Obl.grd 3 false _ _ _ rfl rfl rfl rfl rfl (by kernel_rfl) fun hg R' w' hw hs hd => by have a0 : R' 1 = v1 := (hs 1 rfl).trans h1; exact of_move a0) <|
      Obls.cons (Obl.grd 3 false _ _ _ rfl rfl rfl rfl rfl (by kernel_rfl) fun hg R' w' hw hs hd => by have a0 : R' 11 = v1 := hd 0 _ _ _ rfl rfl rfl rfl hg; have ra0 := (f_v1.fr hw).eq a0; exact of_call Try.call65 (M_impl_IsFeatureVector_ok (q5 hg) (hA.fr hw.size) ra0)) <|
      Obls.cons (Obl.grd 3 false _ _ _ rfl rfl rfl rfl rfl (by kernel_rfl) fun hg R' w' hw hs hd => by have a0 : R' 12 = .bool x4 := hd 0 _ _ _ rfl rfl rfl rfl hg; exact of_not a0) <|
      Obls.cons (Obl.plain rfl rfl fun R' w' hw hs hd => by have a0 : R' 10 = .bool (!x2) := hd 0 _ _ _ rfl rfl rfl rfl rfl; exact of_pick (!x2) a0 (fun hc => by show _ = Value.bool x6; rw [q7, hc]; exact rfl) (fun hc => by have a2 : R' 13 = .bool (!x4) := hd 1 _ _ _ rfl rfl rfl rfl (g_and rfl (beq_of hc)); show _ = Value.bool x6; rw [q7, hc]; exact a2)) <|
      Obls.nil
  intro R w hw hs hF'
  replace h1 : R 1 = v1 := (hs 1 rfl).trans h1
  replace h2 : R 2 = (.pointer (some ⟨b2_0, 0, none⟩)) := (hs 2 rfl).trans h2
  have h14 : R 14 = .bool x6 := hF' 7 _ _ rfl rfl rfl
  replace f_v1 := f_v1.fr hw
  replace hO := hO.fr hw
  replace hA := hA.fr hw.size
  replace hF := hF.trans hw
  clear hs hF' hw
  refine seqR_nil ?_
  refine HT.cond x6 h14 (fun c8 => ?_) (fun c8 => ?_)
  · have hr := cnd_t c8 hr
    refine HT.seq ?_
    refine HT.text (l := ⟨_, true, .raw (.int .i64 (0 : Int))⟩ :: []) (tl := []) (by kernel_rfl) (by kernel_rfl) (by kernel_rfl) ?_ ?_
    · exact
        Obls.cons (Obl.plain rfl rfl fun R' w' hw hs hd => by exact of_assign rfl) <|
        Obls.nil
    intro R w hw hs hF'
    have h4 : R 4 = .int .i64 (0 : Int) := hF' 0 _ _ rfl rfl rfl
    replace hO := hO.fr hw
    replace hO : IniOK [] A w := hO.sub [] trivial
    replace hA := hA.fr hw.size
    replace hF := hF.trans hw
    clear hs hF' hw
    refine seqR_nil ?_
    refine HT.ret ?_
    obtain rfl := Option.some.inj hr
    exact ⟨.inr rfl, [R 4], ⟨rfl, trivial⟩, h4, hF⟩
  · have hr := cnd_f c8 hr
    refine HT.skip ?_
    refine HT.seq ?_
    obtain ⟨x9, q10, hr⟩ := cl_some hr
    refine HT.text (l := ⟨_, true, .rep E_impl_Diagram A p0⟩ :: ⟨_, true, .raw v1⟩ :: ⟨_, true, .tup2 (.raw (.int .i64 x9.1)) (.raw (.int .i64 x9.2))⟩ :: ⟨_, true, .tup2 (.raw (.int .i64 x9.1)) (.raw (.int .i64 x9.2))⟩ :: ⟨_, true, .raw (.int .i64 x9.1)⟩ :: ⟨_, true, .raw (.int .i64 x9.2)⟩ :: ⟨_, true, .raw (.int .i64 x9.1)⟩ :: ⟨_, true, .raw (.int .i64 x9.2)⟩ :: []) (tl := []) (by kernel_rfl) (by kernel_rfl) (by kernel_rfl) ?_ ?_
    · exact
        Obls.cons (Obl.plain rfl rfl fun R' w' hw hs hd => by have a0 : R' 2 = (.pointer (some ⟨b2_0, 0, none⟩)) := (hs 2 rfl).trans h2; exact (of_load_box ((hO.fr hw).ok 0 _ rfl).1 a0 (Fld.id _) rfl Try.isAgg43 Try.sizeOf43)) <|
        Obls.cons (Obl.plain rfl rfl fun R' w' hw hs hd => by have a0 : R' 1 = v1 := (hs 1 rfl).trans h1; exact of_move a0) <|
        Obls.cons (Obl.plain rfl rfl fun R' w' hw hs hd => by have a0 : Rep E_impl_Diagram A w' (R' 16) p0 := hd 0 _ _ _ rfl rfl rfl rfl rfl; have a1 : R' 17 = v1 := hd 1 _ _ _ rfl rfl rfl rfl rfl; have ra1 := (f_v1.fr hw).eq a1; exact of_call Try.call88 (M_impl_Diagram_follow_ok (q10 rfl) (hA.fr hw.size) a0 ra1)) <|
        Obls.cons (Obl.plain rfl rfl fun R' w' hw hs hd => by have a0 : Fact.ok (.tup2 (.raw (.int .i64 x9.1)) (.raw (.int .i64 x9.2))) (R' 18) w' := hd 0 _ _ _ rfl rfl rfl rfl rfl; exact of_move a0) <|
        Obls.cons (Obl.plain rfl rfl fun R' w' hw hs hd => by have a0 : Fact.ok (.tup2 (.raw (.int .i64 x9.1)) (.raw (.int .i64 x9.2))) (R' 15) w' := hd 0 _ _ _ rfl rfl rfl rfl rfl; exact of_extract2_0 a0) <|
        Obls.cons (Obl.plain rfl rfl fun R' w' hw hs hd => by have a0 : Fact.ok (.tup2 (.raw (.int .i64 x9.1)) (.raw (.int .i64 x9.2))) (R' 15) w' := hd 0 _ _ _ rfl rfl rfl rfl rfl; exact of_extract2_1 a0) <|
        Obls.cons (Obl.plain rfl rfl fun R' w' hw hs hd => by have a0 : R' 19 = .int .i64 x9.1 := hd 0 _ _ _ rfl rfl rfl rfl rfl; exact of_assign a0) <|
        Obls.cons (Obl.plain rfl rfl fun R' w' hw hs hd => by have a0 : R' 20 = .int .i64 x9.2 := hd 0 _ _ _ rfl rfl rfl rfl rfl; exact of_assign a0) <|
        Obls.nil
    intro R w hw hs hF'
    have h6 : R 6 = .int .i64 x9.2 := hF' 7 _ _ rfl rfl rfl
    replace hO := hO.fr hw
    replace hO : IniOK [] A w := hO.sub [] trivial
    replace hA := hA.fr hw.size
    replace hF := hF.trans hw
    clear hs hF' hw
    refine seqR_nil ?_
    refine HT.seq ?_
    refine HT.text (l := ⟨_, true, .raw (.int .i64 x9.2)⟩ :: ⟨_, true, .raw (.int .i64 x9.2)⟩ :: []) (tl := []) (by kernel_rfl) (by kernel_rfl) (by kernel_rfl) ?_ ?_
    · exact
        Obls.cons (Obl.plain rfl rfl fun R' w' hw hs hd => by have a0 : R' 6 = .int .i64 x9.2 := (hs 6 rfl).trans h6; exact of_move a0) <|
        Obls.cons (Obl.plain rfl rfl fun R' w' hw hs hd => by have a0 : R' 21 = .int .i64 x9.2 := hd 0 _ _ _ rfl rfl rfl rfl rfl; exact of_assign a0) <|
        Obls.nil
    intro R w hw hs hF'
    have h4 : R 4 = .int .i64 x9.2 := hF' 1 _ _ rfl rfl rfl
    replace hO := hO.fr hw
    replace hA := hA.fr hw.size
    replace hF := hF.trans hw
    clear hs hF' hw
    refine seqR_nil ?_
    refine HT.ret ?_
    obtain rfl := Option.some.inj hr
    exact ⟨.inr rfl, [R 4], ⟨rfl, trivial⟩, h4, hF⟩
def M_laws_FnExactTestsEvaluated (fu : Nat) (p0 : T_laws_Diagram) (p1 : List Int) : Option Bool :=
  bif (decide ((1048576 : Int) < (p1.length : Int))) then (
    some true
  ) else (
    cl true (M_laws_szDiagram fu p0 (1048576 : Int)) fun x3 =>
    bif (decide (x3 < (0 : Int))) then (
      some true
    ) else (
      cl true (M_laws_toDiagram fu p0) fun x6 =>
      cl true (M_laws_toIntS fu p1) fun x8 =>
      cl true (M_spec_TestsEvaluated fu x6 x8) fun x10 =>
      cl true (M_laws_toDiagram fu p0) fun x12 =>
      cl true (M_laws_toIntS fu p1) fun x17 =>
      cl true (M_impl_TestsEvaluated fu x12 x17) fun x20 =>
      bif (x20 != x10) then (
        some false
      ) else (
        cl true (M_laws_toDiagram fu p0) fun x23 =>
        cl true (M_laws_eqDiagram fu x12 x23) fun x25 =>
        bif (!x25) then (
          some false
        ) else (
          cl true (M_laws_toIntS fu p1) fun x28 =>
          cl true (M_laws_eqIntS fu x17 x28) fun x30 =>
          bif (!x30) then (
            some false
          ) else (
            some true
          )
        )
      )
    )
  )
set_option maxRecDepth 100000 in
set_option maxHeartbeats 4000000 in
theorem M_laws_FnExactTestsEvaluated_ok {fu : Nat} {A0 : Av} {p0 : T_laws_Diagram} {p1 : List Int} {r : Bool} (hr : M_laws_FnExactTestsEvaluated fu p0 p1 = some r) {w : World} {v0 : Value} {v1 : Value} (hA : AvOK A0 w) (h0 : Rep E_laws_Diagram A0 w v0 p0) (h1 : Rep (eSl (eInt .i64)) A0 w v1 p1) :
    Calls Try.prog 8 #[v0, v1] w fun e w' => ∃ v, e = .returned v ∧ (v = .bool r ∧ Fr w w') := by
  unfold M_laws_FnExactTestsEvaluated at hr
  obtain ⟨w0, hw0⟩ : ∃ w0, w0 = w := ⟨_, rfl⟩
  have hF : Fr w0 w := hw0 ▸ Fr.refl _
  have hA0 : ∀ b o, A0 b o → b < w0.heap.size := fun b o h => hw0 ▸ hA b o h
  have hA00 : AvOK A0 w0 := hA0
  rw [show Fr w = Fr w0 from hw0 ▸ rfl]
  clear hw0
  obtain ⟨A, hAe⟩ : ∃ A, A = A0 := ⟨_, rfl⟩
  have hAA : ∀ b o, A0 b o → A b o := fun b o h => hAe ▸ h
  replace hA : AvOK A w := hAe ▸ hA
  have hO : IniOK [] A w := IniOK.nil
  refine calls_of_HT2 [.tmp 4] Try.func8 Try.ntmps8 (by decide) rfl rfl (Nat.le_of_ble_eq_true rfl) ?_
  intro R hR
  have f_v0 : Rep E_laws_Diagram A w v0 p0 := hAe ▸ h0
  replace h0 : R 0 = v0 := hR 0 _ rfl
  have f_v1 : Rep (eSl (eInt .i64)) A w v1 p1 := hAe ▸ h1
  replace h1 : R 1 = v1 := hR 1 _ rfl
  clear hR hAe
  refine HT.seq ?_
  refine HT.textR [] (⟨_, true, none, some (.box w0.heap.size 38 E_laws_Diagram p0), true, fun A => .any⟩ :: ⟨_, true, none, none, true, fun A => .raw (.bool false)⟩ :: []) (by kernel_rfl) (by kernel_rfl) (Wf.mk' (by kernel_rfl) (UAll.cons ust_any (UAll.cons ust_raw (UAll.nil))) (by kernel_rfl) (by kernel_rfl)) hO hA ?_ ?_
  · exact
      OblsR.cons (OblR.made _ rfl rfl rfl rfl fun A' R' w' ho hd => by have a0 : R' 0 = v0 := (ho.old 0 rfl).trans h0; have ra0 := (f_v0.stp ho.stp).eq a0; exact made_box ra0 (Nat.le_trans hF.size ho.ch.size)) <|
      OblsR.cons (OblR.plain rfl rfl rfl rfl fun A' R' w' ho hd => by exact of_assign rfl) <|
      OblsR.nil
  intro done ρ A R w hdn hI
  replace h1 : R 1 = v1 := (hI.reg rfl).trans h1
  obtain ⟨b2_0, e_b2_0⟩ := hI.boxv hdn 0 rfl rfl
  have h2 : R 2 = (.pointer (some ⟨b2_0, 0, none⟩)) := (hI.opvR hdn 0 0 rfl rfl rfl rfl rfl).symm.trans e_b2_0
  replace f_v1 := f_v1.stp hI.stp
  replace hAA := hI.low' hAA hA0 (hO.ge (trivial))
  replace hF : Fr w0 w := Below.trans hF (hI.ch.below hF.size (hO.ge (trivial)))
  replace hO : IniOK [((.pointer (some ⟨b2_0, 0, none⟩)), .box w0.heap.size 38 E_laws_Diagram p0)] A w := hI.left hdn [(0, (.pointer (some ⟨b2_0, 0, none⟩)), .box w0.heap.size 38 E_laws_Diagram p0)] ⟨rfl, rfl, e_b2_0, rfl, trivial⟩
  replace hA := hI.avok
  clear hI
  refine HT.seq ?_
  refine HT.seq ?_
  refine HT.text (l := ⟨_, true, .raw v1⟩ :: ⟨_, true, .raw (.int .i64 (p1.length : Int))⟩ :: ⟨_, true, .raw (.bool (decide ((1048576 : Int) < (p1.length : Int))))⟩ :: []) (tl := []) (by kernel_rfl) (by kernel_rfl) (by kernel_rfl) ?_ ?_
  · exact
      Obls.cons (Obl.plain rfl rfl fun R' w' hw hs hd => by have a0 : R' 1 = v1 := (hs 1 rfl).trans h1; exact of_move a0) <|
      Obls.cons (Obl.plain rfl rfl fun R' w' hw hs hd => by have a0 : R' 10 = v1 := hd 0 _ _ _ rfl rfl rfl rfl rfl; have ra0 := (f_v1.fr hw).eq a0; exact of_len_sl (aT := #[]) ra0 Try.underlying25) <|
      Obls.cons (Obl.plain rfl rfl fun R' w' hw hs hd => by have a0 : R' 11 = .int .i64 (p1.length : Int) := hd 0 _ _ _ rfl rfl rfl rfl rfl; exact of_gtr a0 rfl) <|
      Obls.nil
  intro R w hw hs hF'
  replace h1 : R 1 = v1 := (hs 1 rfl).trans h1
  replace h2 : R 2 = (.pointer (some ⟨b2_0, 0, none⟩)) := (hs 2 rfl).trans h2
  have h12 : R 12 = .bool (decide ((1048576 : Int) < (p1.length : Int))) := hF' 2 _ _ rfl rfl rfl
  replace f_v1 := f_v1.fr hw
  replace hO := hO.fr hw
  replace hA := hA.fr hw.size
  replace hF := hF.trans hw
  clear hs hF' hw
  refine seqR_nil ?_
  refine HT.cond (decide ((1048576 : Int) < (p1.length : Int))) h12 (fun c2 => ?_) (fun c2 => ?_)
  · have hr := cnd_t c2 hr
    refine HT.seq ?_
    refine HT.text (l := ⟨_, true, .raw (.bool true)⟩ :: []) (tl := []) (by kernel_rfl) (by kernel_rfl) (by kernel_rfl) ?_ ?_
    · exact
        Obls.cons (Obl.plain rfl rfl fun R' w' hw hs hd => by exact of_assign rfl) <|
        Obls.nil
    intro R w hw hs hF'
    have h4 : R 4 = .bool true := hF' 0 _ _ rfl rfl rfl
    replace hO := hO.fr hw
    replace hO : IniOK [] A w := hO.sub [] trivial
    replace hA := hA.fr hw.size
    replace hF := hF.trans hw
    clear hs hF' hw
    refine seqR_nil ?_
    refine HT.ret ?_
    obtain rfl := Option.some.inj hr
    exact ⟨.inr rfl, [R 4], ⟨rfl, trivial⟩, h4, hF⟩
  · have hr := cnd_f c2 hr
    refine HT.skip ?_
    refine HT.seq ?_
    refine HT.text (l := ⟨_, true, .raw (.int .i64 (1048576 : Int))⟩ :: []) (tl := []) (by kernel_rfl) (by kernel_rfl) (by kernel_rfl) ?_ ?_
    · exact
        Obls.cons (Obl.plain rfl rfl fun R' w' hw hs hd => by exact of_assign rfl) <|
        Obls.nil
    intro R w hw hs hF'
    replace h1 : R 1 = v1 := (hs 1 rfl).trans h1
    replace h2 : R 2 = (.pointer (some ⟨b2_0, 0, none⟩)) := (hs 2 rfl).trans h2
    have h5 : R 5 = .int .i64 (1048576 : Int) := hF' 0 _ _ rfl rfl rfl
    replace f_v1 := f_v1.fr hw
    replace hO := hO.fr hw
    replace hA := hA.fr hw.size
    replace hF := hF.trans hw
    clear hs hF' hw
    refine seqR_nil ?_
    refine HT.seq ?_
    obtain ⟨x3, q4, hr⟩ := cl_some hr
    refine HT.text (l := ⟨_, true, .rep E_laws_Diagram A p0⟩ :: ⟨_, true, .raw (.int .i64 (1048576 : Int))⟩ :: ⟨_, true, .raw (.int .i64 x3)⟩ :: ⟨_, true, .raw (.int .i64 x3)⟩ :: []) (tl := []) (by kernel_rfl) (by kernel_rfl) (by kernel_rfl) ?_ ?_
    · exact
        Obls.cons (Obl.plain rfl rfl fun R' w' hw hs hd => by have a0 : R' 2 = (.pointer (some ⟨b2_0, 0, none⟩)) := (hs 2 rfl).trans h2; exact (of_load_box ((hO.fr hw).ok 0 _ rfl).1 a0 (Fld.id _) rfl Try.isAgg38 Try.sizeOf38)) <|
        Obls.cons (Obl.plain rfl rfl fun R' w' hw hs hd => by have a0 : R' 5 = .int .i64 (1048576 : Int) := (hs 5 rfl).trans h5; exact of_move a0) <|
        Obls.cons (Obl.plain rfl rfl fun R' w' hw hs hd => by have a0 : Rep E_laws_Diagram A w' (R' 13) p0 := hd 0 _ _ _ rfl rfl rfl rfl rfl; have a1 : R' 14 = .int .i64 (1048576 : Int) := hd 1 _ _ _ rfl rfl rfl rfl rfl; exact of_call Try.call22 (M_laws_szDiagram_ok (q4 rfl) (hA.fr hw.size) a0 a1)) <|
        Obls.cons (Obl.plain rfl rfl fun R' w' hw hs hd => by have a0 : R' 15 = .int .i64 x3 := hd 0 _ _ _ rfl rfl rfl rfl rfl; exact of_assign a0) <|
        Obls.nil
    intro R w hw hs hF'
    replace h1 : R 1 = v1 := (hs 1 rfl).trans h1
    replace h2 : R 2 = (.pointer (some ⟨b2_0, 0, none⟩)) := (hs 2 rfl).trans h2
    have h5 : R 5 = .int .i64 x3 := hF' 3 _ _ rfl rfl rfl
    replace f_v1 := f_v1.fr hw
    replace hO := hO.fr hw
    replace hA := hA.fr hw.size
    replace hF := hF.trans hw
    clear hs hF' hw
    refine seqR_nil ?_
    refine HT.seq ?_
    refine HT.seq ?_
    refine HT.text (l := ⟨_, true, .raw (.int .i64 x3)⟩ :: ⟨_, true, .raw (.bool (decide (x3 < (0 : Int))))⟩ :: []) (tl := []) (by kernel_rfl) (by kernel_rfl) (by kernel_rfl) ?_ ?_
    · exact
        Obls.cons (Obl.plain rfl rfl fun R' w' hw hs hd => by have a0 : R' 5 = .int .i64 x3 := (hs 5 rfl).trans h5; exact of_move a0) <|
        Obls.cons (Obl.plain rfl rfl fun R' w' hw hs hd => by have a0 : R' 16 = .int .i64 x3 := hd 0 _ _ _ rfl rfl rfl rfl rfl; exact of_lss a0 rfl) <|
        Obls.nil
    intro R w hw hs hF'
    replace h1 : R 1 = v1 := (hs 1 rfl).trans h1
    replace h2 : R 2 = (.pointer (some ⟨b2_0, 0, none⟩)) := (hs 2 rfl).trans h2
    have h17 : R 17 = .bool (decide (x3 < (0 : Int))) := hF' 1 _ _ rfl rfl rfl
    replace f_v1 := f_v1.fr hw
    replace hO := hO.fr hw
    replace hA := hA.fr hw.size
    replace hF := hF.trans hw
    clear hs hF' hw
    refine seqR_nil ?_
    refine HT.cond (decide (x3 < (0 : Int))) h17 (fun c5 => ?_) (fun c5 => ?_)
    · have hr := cnd_t c5 hr
      refine HT.seq ?_
      refine HT.text (l := ⟨_, true, .raw (.bool true)⟩ :: []) (tl := []) (by kernel_rfl) (by kernel_rfl) (by kernel_rfl) ?_ ?_
      · exact
          Obls.cons (Obl.plain rfl rfl fun R' w' hw hs hd => by exact of_assign rfl) <|
          Obls.nil
      intro R w hw hs hF'
      have h4 : R 4 = .bool true := hF' 0 _ _ rfl rfl rfl
      replace hO := hO.fr hw
      replace hO : IniOK [] A w := hO.sub [] trivial
      replace hA := hA.fr hw.size
      replace hF := hF.trans hw
      clear hs hF' hw
      refine seqR_nil ?_
      refine HT.ret ?_
      obtain rfl := Option.some.inj hr
      exact ⟨.inr rfl, [R 4], ⟨rfl, trivial⟩, h4, hF⟩
    · have hr := cnd_f c5 hr
      refine HT.skip ?_
      refine HT.seq ?_
      obtain ⟨x6, q7, hr⟩ := cl_some hr
      obtain ⟨x8, q9, hr⟩ := cl_some hr
      obtain ⟨x10, q11, hr⟩ := cl_some hr
      refine HT.text (l := ⟨_, true, .rep E_laws_Diagram A p0⟩ :: ⟨_, true, .rep E_impl_Diagram A x6⟩ :: ⟨_, true, .raw v1⟩ :: ⟨_, true, .rep (eSl (eInt .i64)) A x8⟩ :: ⟨_, true, .raw (.int .i64 x10)⟩ :: ⟨_, true, .raw (.int .i64 x10)⟩ :: []) (tl := []) (by kernel_rfl) (by kernel_rfl) (by kernel_rfl) ?_ ?_
      · exact
          Obls.cons (Obl.plain rfl rfl fun R' w' hw hs hd => by have a0 : R' 2 = (.pointer (some ⟨b2_0, 0, none⟩)) := (hs 2 rfl).trans h2; exact (of_load_box ((hO.fr hw).ok 0 _ rfl).1 a0 (Fld.id _) rfl Try.isAgg38 Try.sizeOf38)) <|
          Obls.cons (Obl.plain rfl rfl fun R' w' hw hs hd => by have a0 : Rep E_laws_Diagram A w' (R' 18) p0 := hd 0 _ _ _ rfl rfl rfl rfl rfl; exact of_call Try.call24 (M_laws_toDiagram_ok (q7 rfl) (hA.fr hw.size) a0)) <|
          Obls.cons (Obl.plain rfl rfl fun R' w' hw hs hd => by have a0 : R' 1 = v1 := (hs 1 rfl).trans h1; exact of_move a0) <|
          Obls.cons (Obl.plain rfl rfl fun R' w' hw hs hd => by have a0 : R' 20 = v1 := hd 0 _ _ _ rfl rfl rfl rfl rfl; have ra0 := (f_v1.fr hw).eq a0; exact of_call Try.call18 (M_laws_toIntS_okR (q9 rfl) (hA.fr hw.size) ra0)) <|
          Obls.cons (Obl.plain rfl rfl fun R' w' hw hs hd => by have a0 : Rep E_impl_Diagram A w' (R' 19) x6 := hd 0 _ _ _ rfl rfl rfl rfl rfl; have a1 : Rep (eSl (eInt .i64)) A w' (R' 21) x8 := hd 1 _ _ _ rfl rfl rfl rfl rfl; exact of_call Try.call39 (M_spec_TestsEvaluated_ok (q11 rfl) (hA.fr hw.size) a0 a1)) <|
          Obls.cons (Obl.plain rfl rfl fun R' w' hw hs hd => by have a0 : R' 22 = .int .i64 x10 := hd 0 _ _ _ rfl rfl rfl rfl rfl; exact of_assign a0) <|
          Obls.nil
      intro R w hw hs hF'
      replace h1 : R 1 = v1 := (hs 1 rfl).trans h1
      replace h2 : R 2 = (.pointer (some ⟨b2_0, 0, none⟩)) := (hs 2 rfl).trans h2
      have h6 : R 6 = .int .i64 x10 := hF' 5 _ _ rfl rfl rfl
      replace f_v1 := f_v1.fr hw
      replace hO := hO.fr hw
      replace hA := hA.fr hw.size
      replace hF := hF.trans hw
      clear hs hF' hw
      refine seqR_nil ?_
      refine HT.seq ?_
      obtain ⟨x12, q13, hr⟩ := cl_some hr
      refine HT.textR [((.pointer (some ⟨b2_0, 0, none⟩)), .box w0.heap.size 38 E_laws_Diagram p0)] (⟨_, true, none, none, true, fun A => .rep E_laws_Diagram A p0⟩ :: ⟨_, true, none, none, true, fun A => .rep E_impl_Diagram A x12⟩ :: ⟨_, true, none, some (.box w0.heap.size 43 E_impl_Diagram ((0 : Int), ([] : List T_impl_DiagramNode))), true, fun A => .any⟩ :: ⟨_, true, some 3, some (.box w0.heap.size 43 E_impl_Diagram x12), false, fun A => .any⟩ :: []) (by kernel_rfl) (by kernel_rfl) (Wf.mk' (by kernel_rfl) (UAll.cons ust_rep (UAll.cons ust_rep (UAll.cons ust_any (UAll.cons ust_any (UAll.nil))))) (by kernel_rfl) (by kernel_rfl)) hO hA ?_ ?_
      · exact
          OblsR.cons (OblR.plain rfl rfl rfl rfl fun A' R' w' ho hd => by have a0 : R' 2 = (.pointer (some ⟨b2_0, 0, none⟩)) := (ho.old 2 rfl).trans h2; exact (of_load_box (ho.rd 0 _ rfl rfl) a0 (Fld.id _) rfl Try.isAgg38 Try.sizeOf38)) <|
          OblsR.cons (OblR.plain rfl rfl rfl rfl fun A' R' w' ho hd => by have a0 : Rep E_laws_Diagram A' w' (R' 23) p0 := hd 0 _ _ _ rfl rfl rfl rfl rfl; exact of_call Try.call24 (M_laws_toDiagram_ok (q13 rfl) ho.av a0)) <|
          OblsR.cons (OblR.made _ rfl rfl rfl rfl fun A' R' w' ho hd => by exact made_alloc Try.zeroValue43 (fun A w => rep_pr rep1_int rep1_nil) (Nat.le_trans hF.size ho.ch.size)) <|
          OblsR.cons (OblR.took 3 _ _ rfl rfl rfl rfl rfl fun A' R' w' ho hd u hok hav hin hop => by have a1 : Rep E_impl_Diagram A' w' (R' 24) x12 := hd 1 _ _ _ rfl rfl rfl rfl rfl; obtain ⟨b, hb, hB', hbx⟩ := hok; have hop' := hop _ _ rfl rfl rfl rfl; exact took_store a1 (hop'.symm.trans hb) hb ⟨b, hb, hB', hbx⟩ hav (FldS.id _) Try.sizeOf43 rfl) <|
          OblsR.nil
      intro done ρ A R w hdn hI
      replace h1 : R 1 = v1 := (hI.reg rfl).trans h1
      replace h2 : R 2 = (.pointer (some ⟨b2_0, 0, none⟩)) := (hI.reg rfl).trans h2
      replace h6 : R 6 = .int .i64 x10 := (hI.reg rfl).trans h6
      have z14 := hI.inivR 0 rfl
      obtain ⟨b7_14, e_b7_14⟩ := hI.boxv hdn 4 rfl rfl
      have z16 := (hI.opnR hdn 4 3 rfl rfl rfl rfl rfl).symm.trans e_b7_14
      have h7 : R 7 = (.pointer (some ⟨b7_14, 0, none⟩)) := (hI.opvR hdn 3 2 rfl rfl rfl rfl rfl).symm.trans z16
      replace f_v1 := f_v1.stp hI.stp
      replace hAA := hI.low' hAA hA0 (hO.ge (⟨rfl, trivial⟩))
      replace hF : Fr w0 w := Below.trans hF (hI.ch.below hF.size (hO.ge (⟨rfl, trivial⟩)))
      replace hO : IniOK [((.pointer (some ⟨b2_0, 0, none⟩)), .box w0.heap.size 38 E_laws_Diagram p0), ((.pointer (some ⟨b7_14, 0, none⟩)), .box w0.heap.size 43 E_impl_Diagram x12)] A w := hI.left hdn [(0, (.pointer (some ⟨b2_0, 0, none⟩)), .box w0.heap.size 38 E_laws_Diagram p0), (4, (.pointer (some ⟨b7_14, 0, none⟩)), .box w0.heap.size 43 E_impl_Diagram x12)] ⟨rfl, rfl, z14, rfl, ⟨rfl, rfl, e_b7_14, rfl, trivial⟩⟩
      replace hA := hI.avok
      clear hI
      refine HT.seq ?_
      obtain ⟨x17, q18, hr⟩ := cl_some hr
      refine HT.text (l := ⟨_, true, .raw v1⟩ :: ⟨_, true, .rep (eSl (eInt .i64)) A x17⟩ :: ⟨_, true, .rep (eSl (eInt .i64)) A x17⟩ :: []) (tl := []) (by kernel_rfl) (by kernel_rfl) (by kernel_rfl) ?_ ?_
      · exact
          Obls.cons (Obl.plain rfl rfl fun R' w' hw hs hd => by have a0 : R' 1 = v1 := (hs 1 rfl).trans h1; exact of_move a0) <|
          Obls.cons (Obl.plain rfl rfl fun R' w' hw hs hd => by have a0 : R' 25 = v1 := hd 0 _ _ _ rfl rfl rfl rfl rfl; have ra0 := (f_v1.fr hw).eq a0; exact of_call Try.call18 (M_laws_toIntS_okR (q18 rfl) (hA.fr hw.size) ra0)) <|
          Obls.cons (Obl.plain rfl rfl fun R' w' hw hs hd => by have a0 : Rep (eSl (eInt .i64)) A w' (R' 26) x17 := hd 0 _ _ _ rfl rfl rfl rfl rfl; exact of_assign a0) <|
          Obls.nil
      intro R w hw hs hF'
      replace h1 : R 1 = v1 := (hs 1 rfl).trans h1
      replace h2 : R 2 = (.pointer (some ⟨b2_0, 0, none⟩)) := (hs 2 rfl).trans h2
      replace h6 : R 6 = .int .i64 x10 := (hs 6 rfl).trans h6
      replace h7 : R 7 = (.pointer (some ⟨b7_14, 0, none⟩)) := (hs 7 rfl).trans h7
      obtain ⟨u19, h8, f_u19⟩ : ∃ u, R 8 = u ∧ Rep (eSl (eInt .i64)) A w u x17 := ⟨_, rfl, hF' 2 _ _ rfl rfl rfl⟩
      replace f_v1 := f_v1.fr hw
      replace hO := hO.fr hw
      replace hA := hA.fr hw.size
      replace hF := hF.trans hw
      clear hs hF' hw
      refine seqR_nil ?_
      refine HT.seq ?_
      obtain ⟨x20, q21, hr⟩ := cl_some hr
      refine HT.text (l := ⟨_, true, .rep E_impl_Diagram A x12⟩ :: ⟨_, true, .raw u19⟩ :: ⟨_, true, .raw (.int .i64 x20)⟩ :: ⟨_, true, .raw (.int .i64 x20)⟩ :: []) (tl := []) (by kernel_rfl) (by kernel_rfl) (by kernel_rfl) ?_ ?_
      · exact
          Obls.cons (Obl.plain rfl rfl fun R' w' hw hs hd => by have a0 : R' 7 = (.pointer (some ⟨b7_14, 0, none⟩)) := (hs 7 rfl).trans h7; exact (of_load_box ((hO.fr hw).ok 1 _ rfl).1 a0 (Fld.id _) rfl Try.isAgg43 Try.sizeOf43)) <|
          Obls.cons (Obl.plain rfl rfl fun R' w' hw hs hd => by have a0 : R' 8 = u19 := (hs 8 rfl).trans h8; exact of_move a0) <|
          Obls.cons (Obl.plain rfl rfl fun R' w' hw hs hd => by have a0 : Rep E_impl_Diagram A w' (R' 27) x12 := hd 0 _ _ _ rfl rfl rfl rfl rfl; have a1 : R' 28 = u19 := hd 1 _ _ _ rfl rfl rfl rfl rfl; have ra1 := (f_u19.fr hw).eq a1; exact of_call Try.call40 (M_impl_TestsEvaluated_ok (q21 rfl) (hA.fr hw.size) a0 ra1)) <|
          Obls.cons (Obl.plain rfl rfl fun R' w' hw hs hd => by have a0 : R' 29 = .int .i64 x20 := hd 0 _ _ _ rfl rfl rfl rfl rfl; exact of_assign a0) <|
          Obls.nil
      intro R w hw hs hF'
      replace h1 : R 1 = v1 := (hs 1 rfl).trans h1
      replace h2 : R 2 = (.pointer (some ⟨b2_0, 0, none⟩)) := (hs 2 rfl).trans h2
      replace h6 : R 6 = .int .i64 x10 := (hs 6 rfl).trans h6
      replace h7 : R 7 = (.pointer (some ⟨b7_14, 0, none⟩)) := (hs 7 rfl).trans h7
      replace h8 : R 8 = u19 := (hs 8 rfl).trans h8
      have h9 : R 9 = .int .i64 x20 := hF' 3 _ _ rfl rfl rfl
      replace f_u19 := f_u19.fr hw
      replace f_v1 := f_v1.fr hw
      replace hO := hO.fr hw
      replace hA := hA.fr hw.size
      replace hF := hF.trans hw
      clear hs hF' hw
      refine seqR_nil ?_
      refine HT.seq ?_
      refine HT.seq ?_
      refine HT.text (l := ⟨_, true, .raw (.int .i64 x20)⟩ :: ⟨_, true, .raw (.int .i64 x10)⟩ :: ⟨_, true, .raw (.bool (x20 != x10))⟩ :: []) (tl := []) (by kernel_rfl) (by kernel_rfl) (by kernel_rfl) ?_ ?_
      · exact
          Obls.cons (Obl.plain rfl rfl fun R' w' hw hs hd => by have a0 : R' 9 = .int .i64 x20 := (hs 9 rfl).trans h9; exact of_move a0) <|
          Obls.cons (Obl.plain rfl rfl fun R' w' hw hs hd => by have a0 : R' 6 = .int .i64 x10 := (hs 6 rfl).trans h6; exact of_move a0) <|
          Obls.cons (Obl.plain rfl rfl fun R' w' hw hs hd => by have a0 : R' 30 = .int .i64 x20 := hd 0 _ _ _ rfl rfl rfl rfl rfl; have a1 : R' 31 = .int .i64 x10 := hd 1 _ _ _ rfl rfl rfl rfl rfl; exact of_neq a0 a1) <|
          Obls.nil
      intro R w hw hs hF'
      replace h1 : R 1 = v1 := (hs 1 rfl).trans h1
      replace h2 : R 2 = (.pointer (some ⟨b2_0, 0, none⟩)) := (hs 2 rfl).trans h2
      replace h7 : R 7 = (.pointer (some ⟨b7_14, 0, none⟩)) := (hs 7 rfl).trans h7
      replace h8 : R 8 = u19 := (hs 8 rfl).trans h8
      have h32 : R 32 = .bool (x20 != x10) := hF' 2 _ _ rfl rfl rfl
      replace f_u19 := f_u19.fr hw
      replace f_v1 := f_v1.fr hw
      replace hO := hO.fr hw
      replace hA := hA.fr hw.size
      replace hF := hF.trans hw
      clear hs hF' hw
      refine seqR_nil ?_
      refine HT.cond (x20 != x10) h32 (fun c22 => ?_) (fun c22 => ?_)
      · have hr := cnd_t c22 hr
        refine HT.seq ?_
        refine HT.text (l := ⟨_, true, .raw (.bool false)⟩ :: []) (tl := []) (by kernel_rfl) (by kernel_rfl) (by kernel_rfl) ?_ ?_
        · exact
            Obls.cons (Obl.plain rfl rfl fun R' w' hw hs hd => by exact of_assign rfl) <|
            Obls.nil
        intro R w hw hs hF'
        have h4 : R 4 = .bool false := hF' 0 _ _ rfl rfl rfl
        replace hO := hO.fr hw
        replace hO : IniOK [] A w := hO.sub [] trivial
        replace hA := hA.fr hw.size
        replace hF := hF.trans hw
        clear hs hF' hw
        refine seqR_nil ?_
        refine HT.ret ?_
        obtain rfl := Option.some.inj hr
        exact ⟨.inr rfl, [R 4], ⟨rfl, trivial⟩, h4, hF⟩
      · have hr := cnd_f c22 hr
        refine HT.skip ?_
        refine HT.seq ?_
        refine HT.seq ?_
        obtain ⟨x23, q24, hr⟩ := cl_some hr
        obtain ⟨x25, q26, hr⟩ := cl_some hr
        refine HT.draw (by kernel_rfl) (l := ⟨_, true, .rep E_impl_Diagram A x12⟩ :: ⟨_, true, .rep E_laws_Diagram A p0⟩ :: ⟨_, true, .rep E_impl_Diagram A x23⟩ :: ⟨_, true, .raw (.bool x25)⟩ :: ⟨_, true, .raw (.bool (!x25))⟩ :: []) (tl := []) (by kernel_rfl) (by kernel_rfl) (by kernel_rfl) (by kernel_rfl) ?_ ?_
        · exact
            Obls.cons (Obl.plain rfl rfl fun R' w' hw hs hd => by have a0 : R' 7 = (.pointer (some ⟨b7_14, 0, none⟩)) := (hs 7 rfl).trans h7; exact (of_load_box ((hO.fr hw).ok 1 _ rfl).1 a0 (Fld.id _) rfl Try.isAgg43 Try.sizeOf43)) <|
            Obls.cons (Obl.plain rfl rfl fun R' w' hw hs hd => by have a0 : R' 2 = (.pointer (some ⟨b2_0, 0, none⟩)) := (hs 2 rfl).trans h2; exact (of_load_box ((hO.fr hw).ok 0 _ rfl).1 a0 (Fld.id _) rfl Try.isAgg38 Try.sizeOf38)) <|
            Obls.cons (Obl.plain rfl rfl fun R' w' hw hs hd => by have a0 : Rep E_laws_Diagram A w' (R' 34) p0 := hd 0 _ _ _ rfl rfl rfl rfl rfl; exact of_call Try.call24 (M_laws_toDiagram_ok (q24 rfl) (hA.fr hw.size) a0)) <|
            Obls.cons (Obl.plain rfl rfl fun R' w' hw hs hd => by have a0 : Rep E_impl_Diagram A w' (R' 33) x12 := hd 0 _ _ _ rfl rfl rfl rfl rfl; have a1 : Rep E_impl_Diagram A w' (R' 35) x23 := hd 1 _ _ _ rfl rfl rfl rfl rfl; exact of_call Try.call26 (M_laws_eqDiagram_ok (q26 rfl) (hA.fr hw.size) a0 a1)) <|
            Obls.cons (Obl.plain rfl rfl fun R' w' hw hs hd => by have a0 : R' 36 = .bool x25 := hd 0 _ _ _ rfl rfl rfl rfl rfl; exact of_not a0) <|
            Obls.nil
        intro R w hw hs hF'
        replace h1 : R 1 = v1 := (hs 1 rfl).trans h1
        replace h8 : R 8 = u19 := (hs 8 rfl).trans h8
        have h37 : R 37 = .bool (!x25) := hF' 4 _ _ rfl rfl rfl
        replace f_u19 := f_u19.fr hw
        replace f_v1 := f_v1.fr hw
        replace hO := hO.fr hw
        replace hO : IniOK [] A w := hO.sub [] trivial
        replace hA := hA.fr hw.size
        replace hF := hF.trans hw
        clear hs hF' hw
        refine seqR_nil ?_
        refine HT.cond (!x25) h37 (fun c27 => ?_) (fun c27 => ?_)
        · have hr := cnd_t c27 hr
          refine HT.seq ?_
          refine HT.text (l := ⟨_, true, .raw (.bool false)⟩ :: []) (tl := []) (by kernel_rfl) (by kernel_rfl) (by kernel_rfl) ?_ ?_
          · exact
              Obls.cons (Obl.plain rfl rfl fun R' w' hw hs hd => by exact of_assign rfl) <|
              Obls.nil
          intro R w hw hs hF'
          have h4 : R 4 = .bool false := hF' 0 _ _ rfl rfl rfl
          replace hO := hO.fr hw
          replace hA := hA.fr hw.size
          replace hF := hF.trans hw
          clear hs hF' hw
          refine seqR_nil ?_
          refine HT.ret ?_
          obtain rfl := Option.some.inj hr
          exact ⟨.inr rfl, [R 4], ⟨rfl, trivial⟩, h4, hF⟩
        · have hr := cnd_f c27 hr
          refine HT.skip ?_
          refine HT.seq ?_
          refine HT.seq ?_
          obtain ⟨x28, q29, hr⟩ := cl_some hr
          obtain ⟨x30, q31, hr⟩ := cl_some hr
          refine HT.text (l := ⟨_, true, .raw u19⟩ :: ⟨_, true, .raw v1⟩ :: ⟨_, true, .rep (eSl (eInt .i64)) A x28⟩ :: ⟨_, true, .raw (.bool x30)⟩ :: ⟨_, true, .raw (.bool (!x30))⟩ :: []) (tl := []) (by kernel_rfl) (by kernel_rfl) (by kernel_rfl) ?_ ?_
          · exact
              Obls.cons (Obl.plain rfl rfl fun R' w' hw hs hd => by have a0 : R' 8 = u19 := (hs 8 rfl).trans h8; exact of_move a0) <|
              Obls.cons (Obl.plain rfl rfl fun R' w' hw hs hd => by have a0 : R' 1 = v1 := (hs 1 rfl).trans h1; exact of_move a0) <|
              Obls.cons (Obl.plain rfl rfl fun R' w' hw hs hd => by have a0 : R' 39 = v1 := hd 0 _ _ _ rfl rfl rfl rfl rfl; have ra0 := (f_v1.fr hw).eq a0; exact of_call Try.call18 (M_laws_toIntS_okR (q29 rfl) (hA.fr hw.size) ra0)) <|
              Obls.cons (Obl.plain rfl rfl fun R' w' hw hs hd => by have a0 : R' 38 = u19 := hd 0 _ _ _ rfl rfl rfl rfl rfl; have ra0 := (f_u19.fr hw).eq a0; have a1 : Rep (eSl (eInt .i64)) A w' (R' 40) x28 := hd 1 _ _ _ rfl rfl rfl rfl rfl; exact of_call Try.call21 (M_laws_eqIntS_ok (q31 rfl) (hA.fr hw.size) ra0 a1)) <|
              Obls.cons (Obl.plain rfl rfl fun R' w' hw hs hd => by have a0 : R' 41 = .bool x30 := hd 0 _ _ _ rfl rfl rfl rfl rfl; exact of_not a0) <|
              Obls.nil
          intro R w hw hs hF'
          have h42 : R 42 = .bool (!x30) := hF' 4 _ _ rfl rfl rfl
          replace hO := hO.fr hw
          replace hA := hA.fr hw.size
          replace hF := hF.trans hw
          clear hs hF' hw
          refine seqR_nil ?_
          refine HT.cond (!x30) h42 (fun c32 => ?_) (fun c32 => ?_)
          · have hr := cnd_t c32 hr
            refine HT.seq ?_
            refine HT.text (l := ⟨_, true, .raw (.bool false)⟩ :: []) (tl := []) (by kernel_rfl) (by kernel_rfl) (by kernel_rfl) ?_ ?_
            · exact
                Obls.cons (Obl.plain rfl rfl fun R' w' hw hs hd => by exact of_assign rfl) <|
                Obls.nil
            intro R w hw hs hF'
            have h4 : R 4 = .bool false := hF' 0 _ _ rfl rfl rfl
            replace hO := hO.fr hw
            replace hA := hA.fr hw.size
            replace hF := hF.trans hw
            clear hs hF' hw
            refine seqR_nil ?_
            refine HT.ret ?_
            obtain rfl := Option.some.inj hr
            exact ⟨.inr rfl, [R 4], ⟨rfl, trivial⟩, h4, hF⟩
          · have hr := cnd_f c32 hr
            refine HT.skip ?_
            refine HT.seq ?_
            refine HT.text (l := ⟨_, true, .raw (.bool true)⟩ :: []) (tl := []) (by kernel_rfl) (by kernel_rfl) (by kernel_rfl) ?_ ?_
            · exact
                Obls.cons (Obl.plain rfl rfl fun R' w' hw hs hd => by exact of_assign rfl) <|
                Obls.nil
            intro R w hw hs hF'
            have h4 : R 4 = .bool true := hF' 0 _ _ rfl rfl rfl
            replace hO := hO.fr hw
            replace hA := hA.fr hw.size
            replace hF := hF.trans hw
            clear hs hF' hw
            refine seqR_nil ?_
            refine HT.ret ?_
            obtain rfl := Option.some.inj hr
            exact ⟨.inr rfl, [R 4], ⟨rfl, trivial⟩, h4, hF⟩
end Go.Proofs.Ytjfhlhhobpdneaa
