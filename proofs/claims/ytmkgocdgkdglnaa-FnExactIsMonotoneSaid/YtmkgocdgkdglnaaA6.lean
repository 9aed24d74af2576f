/- Printed by dec.py: plain functions and the proofs that the code computes them. No statement of the seat is proved here. -/
import Derived.Test.YtmkgocdgkdglnaaA5
namespace Go.Proofs.Ytmkgocdgkdglnaa
open Go.RowKit
set_option linter.unusedVariables false
def M_spec_IsMonotone (fu : Nat) (p0 : T_impl_RuleSet) : Option Bool :=
  cl true (M_spec_MonotoneViolation fu p0) fun x2 =>
  cl true (M_spec_IsValidRules fu p0) fun x4 =>
  bd (x4 && (!x2.2.2)) fun x6 =>
  some x6
set_option maxRecDepth 100000 in
set_option maxHeartbeats 4000000 in
theorem M_spec_IsMonotone_ok {fu : Nat} {A0 : Av} {p0 : T_impl_RuleSet} {r : Bool} (hr : M_spec_IsMonotone fu p0 = some r) {w : World} {v0 : Value} (hA : AvOK A0 w) (h0 : Rep E_impl_RuleSet A0 w v0 p0) :
    Calls Try.prog 8 #[v0] w fun e w' => ∃ v, e = .returned v ∧ (v = .bool r ∧ Fr w w') := by
  unfold M_spec_IsMonotone at hr
  obtain ⟨w0, hw0⟩ : ∃ w0, w0 = w := ⟨_, rfl⟩
  have hF : Fr w0 w := hw0 ▸ Fr.refl _
  have hA0 : ∀ b o, A0 b o → b < w0.heap.size := fun b o h => hw0 ▸ hA b o h
  have hA00 : AvOK A0 w0 := hA0
  rw [show Fr w = Fr w0 from hw0 ▸ rfl]
  clear hw0
  obtain ⟨A, hAe⟩ : ∃ A, A = A0 := ⟨_, rfl⟩
  have hAA : ∀ b o, A0 b o → A b o := fun b o h => hAe ▸ h
  replace hA : AvOK A w := hAe ▸ hA
  have hO : IniOK [] A w := IniOK.nil
  refine calls_of_HT2 [.tmp 2] Try.func8 Try.ntmps8 (by decide) rfl rfl (Nat.le_of_ble_eq_true rfl) ?_
  intro R hR
  have f_v0 : Rep E_impl_RuleSet A w v0 p0 := hAe ▸ h0
  replace h0 : R 0 = v0 := hR 0 _ rfl
  clear hR hAe
  refine HT.seq ?_
  refine HT.textR [] (⟨_, true, [], some (.box w0.heap.size 29 E_impl_RuleSet p0), true, fun A => .any⟩ :: ⟨_, true, [], none, true, fun A => .raw (.bool false)⟩ :: []) (by kernel_rfl) (by kernel_rfl) (Wf.mk' (by kernel_rfl) (UAll.cons ust_any (UAll.cons ust_raw (UAll.nil))) (by kernel_rfl) (by kernel_rfl)) hO hA ?_ ?_
  · exact
      OblsR.cons (OblR.made _ rfl rfl rfl rfl fun A' R' w' ho hd => by have a0 : R' 0 = v0 := (ho.old 0 rfl).trans h0; have ra0 := (f_v0.stp ho.stp).eq a0; exact made_box ra0 (Nat.le_trans hF.size ho.ch.size)) <|
      OblsR.cons (OblR.plain rfl rfl rfl rfl fun A' R' w' ho hd => by exact of_assign rfl) <|
      OblsR.nil
  intro done ρ σ A R w hdn hI
  obtain ⟨b1_0, e_b1_0⟩ := hI.boxv hdn 0 rfl rfl
  have h1 : R 1 = (.pointer (some ⟨b1_0, 0, none⟩)) := (hI.opvR hdn 0 0 rfl rfl rfl rfl rfl).symm.trans e_b1_0
  replace hAA := hI.low' hAA hA0 (hO.ge (trivial))
  replace hF : Fr w0 w := hF.tr hI.ch (hO.ge (trivial))
  replace hO : IniOK [ob (.pointer (some ⟨b1_0, 0, none⟩)) (.box w0.heap.size 29 E_impl_RuleSet p0)] A w := hI.left hdn [(0, ob (.pointer (some ⟨b1_0, 0, none⟩)) (.box w0.heap.size 29 E_impl_RuleSet p0))] ⟨rfl, rfl, e_b1_0, rfl, rfl, trivial⟩
  replace hA := hI.avok
  clear hI
  refine HT.seq ?_
  obtain ⟨x2, q3, hr⟩ := cl_some hr
  refine HT.text (l := ⟨_, true, .rep E_impl_RuleSet A p0⟩ :: ⟨_, true, .tup3 (.rep (eSl (eInt .i64)) A x2.1) (.rep (eSl (eInt .i64)) A x2.2.1) (.raw (.bool x2.2.2))⟩ :: ⟨_, true, .tup3 (.rep (eSl (eInt .i64)) A x2.1) (.rep (eSl (eInt .i64)) A x2.2.1) (.raw (.bool x2.2.2))⟩ :: ⟨_, true, .rep (eSl (eInt .i64)) A x2.1⟩ :: ⟨_, true, .rep (eSl (eInt .i64)) A x2.2.1⟩ :: ⟨_, true, .raw (.bool x2.2.2)⟩ :: ⟨_, true, .rep (eSl (eInt .i64)) A x2.1⟩ :: ⟨_, true, .rep (eSl (eInt .i64)) A x2.2.1⟩ :: ⟨_, true, .raw (.bool x2.2.2)⟩ :: []) (tl := []) (by kernel_rfl) (by kernel_rfl) (by kernel_rfl) ?_ ?_
  · exact
      Obls.cons (Obl.plain rfl rfl fun R' w' hw hs hd => by have a0 : R' 1 = (.pointer (some ⟨b1_0, 0, none⟩)) := (hs 1 rfl).trans h1; exact (of_load_box ((hO.fr hw).ok 0 _ rfl).1 a0 (Fld.id _) rfl Try.isAgg29 Try.sizeOf29)) <|
      Obls.cons (Obl.plain rfl rfl fun R' w' hw hs hd => by have a0 : Rep E_impl_RuleSet A w' (R' 7) p0 := hd 0 _ _ _ rfl rfl rfl rfl rfl; exact of_call Try.call12 (M_spec_MonotoneViolation_ok (q3 rfl) (hA.fr hw.size) a0)) <|
      Obls.cons (Obl.plain rfl rfl fun R' w' hw hs hd => by have a0 : Fact.ok (.tup3 (.rep (eSl (eInt .i64)) A x2.1) (.rep (eSl (eInt .i64)) A x2.2.1) (.raw (.bool x2.2.2))) (R' 8) w' := hd 0 _ _ _ rfl rfl rfl rfl rfl; exact of_move a0) <|
      Obls.cons (Obl.plain rfl rfl fun R' w' hw hs hd => by have a0 : Fact.ok (.tup3 (.rep (eSl (eInt .i64)) A x2.1) (.rep (eSl (eInt .i64)) A x2.2.1) (.raw (.bool x2.2.2))) (R' 6) w' := hd 0 _ _ _ rfl rfl rfl rfl rfl; exact of_extract3_0 a0) <|
      Obls.cons (Obl.plain rfl rfl fun R' w' hw hs hd => by have a0 : Fact.ok (.tup3 (.rep (eSl (eInt .i64)) A x2.1) (.rep (eSl (eInt .i64)) A x2.2.1) (.raw (.bool x2.2.2))) (R' 6) w' := hd 0 _ _ _ rfl rfl rfl rfl rfl; exact of_extract3_1 a0) <|
      Obls.cons (Obl.plain rfl rfl fun R' w' hw hs hd => by have a0 : Fact.ok (.tup3 (.rep (eSl (eInt .i64)) A x2.1) (.rep (eSl (eInt .i64)) A x2.2.1) (.raw (.bool x2.2.2))) (R' 6) w' := hd 0 _ _ _ rfl rfl rfl rfl rfl; exact of_extract3_2 a0) <|
      Obls.cons (Obl.plain rfl rfl fun R' w' hw hs hd => by have a0 : Rep (eSl (eInt .i64)) A w' (R' 9) x2.1 := hd 0 _ _ _ rfl rfl rfl rfl rfl; exact of_assign a0) <|
      Obls.cons (Obl.plain rfl rfl fun R' w' hw hs hd => by have a0 : Rep (eSl (eInt .i64)) A w' (R' 10) x2.2.1 := hd 0 _ _ _ rfl rfl rfl rfl rfl; exact of_assign a0) <|
      Obls.cons (Obl.plain rfl rfl fun R' w' hw hs hd => by have a0 : R' 11 = .bool x2.2.2 := hd 0 _ _ _ rfl rfl rfl rfl rfl; exact of_assign a0) <|
      Obls.nil
  intro R w hw hs hF'
  replace h1 : R 1 = (.pointer (some ⟨b1_0, 0, none⟩)) := (hs 1 rfl).trans h1
  have h5 : R 5 = .bool x2.2.2 := hF' 8 _ _ rfl rfl rfl
  replace hO := hO.fr hw
  replace hA := hA.fr hw.size
  replace hF := hF.trans hw
  clear hs hF' hw
  refine seqR_nil ?_
  refine HT.seq ?_
  obtain ⟨x4, q5, hr⟩ := cl_some hr
  obtain ⟨x6, q7, hr⟩ := bd_some hr
  refine HT.text (l := ⟨_, true, .rep E_impl_RuleSet A p0⟩ :: ⟨_, true, .raw (.bool x4)⟩ :: ⟨_, true, .raw (.bool x4)⟩ :: ⟨_, (true && (x4 == true)), .raw (.bool x2.2.2)⟩ :: ⟨_, (true && (x4 == true)), .raw (.bool (!x2.2.2))⟩ :: ⟨_, true, .raw (.bool x6)⟩ :: ⟨_, true, .raw (.bool x6)⟩ :: []) (tl := []) (by kernel_rfl) (by kernel_rfl) (by kernel_rfl) ?_ ?_
  · exact
      Obls.cons (Obl.plain rfl rfl fun R' w' hw hs hd => by have a0 : R' 1 = (.pointer (some ⟨b1_0, 0, none⟩)) := (hs 1 rfl).trans h1; exact (of_load_box ((hO.fr hw).ok 0 _ rfl).1 a0 (Fld.id _) rfl Try.isAgg29 Try.sizeOf29)) <|
      Obls.cons (Obl.plain rfl rfl fun R' w' hw hs hd => by have a0 : Rep E_impl_RuleSet A w' (R' 12) p0 := hd 0 _ _ _ rfl rfl rfl rfl rfl; exact of_call Try.call26 (M_spec_IsValidRules_ok (q5 rfl) (hA.fr hw.size) a0)) <|
      Obls.cons (Obl.plain rfl rfl fun R' w' hw hs hd => by have a0 : R' 13 = .bool x4 := hd 0 _ _ _ rfl rfl rfl rfl rfl; exact of_move a0) <|
      Obls.cons (Obl.grd 2 true _ _ _ rfl rfl rfl rfl rfl (by kernel_rfl) fun hg R' w' hw hs hd => by have a0 : R' 5 = .bool x2.2.2 := (hs 5 rfl).trans h5; exact of_move a0) <|
      Obls.cons (Obl.grd 2 true _ _ _ rfl rfl rfl rfl rfl (by kernel_rfl) fun hg R' w' hw hs hd => by have a0 : R' 15 = .bool x2.2.2 := hd 0 _ _ _ rfl rfl rfl rfl hg; exact of_not a0) <|
      Obls.cons (Obl.plain rfl rfl fun R' w' hw hs hd => by have a0 : R' 14 = .bool x4 := hd 0 _ _ _ rfl rfl rfl rfl rfl; exact of_pick x4 a0 (fun hc => by have a1 : R' 16 = .bool (!x2.2.2) := hd 1 _ _ _ rfl rfl rfl rfl (g_and rfl (beq_of hc)); show _ = Value.bool x6; rw [q7, hc]; exact a1) (fun hc => by show _ = Value.bool x6; rw [q7, hc]; exact rfl)) <|
      Obls.cons (Obl.plain rfl rfl fun R' w' hw hs hd => by have a0 : R' 17 = .bool x6 := hd 0 _ _ _ rfl rfl rfl rfl rfl; exact of_assign a0) <|
      Obls.nil
  intro R w hw hs hF'
  have h2 : R 2 = .bool x6 := hF' 6 _ _ rfl rfl rfl
  replace hO := hO.fr hw
  replace hO : IniOK [] A w := hO.sub [] trivial
  replace hA := hA.fr hw.size
  replace hF := hF.trans hw
  clear hs hF' hw
  refine seqR_nil ?_
  refine HT.ret ?_
  obtain rfl := Option.some.inj hr
  exact ⟨.inr rfl, [R 2], ⟨rfl, trivial⟩, h2, hF⟩
def M_impl_IsMonotone (fu : Nat) (p0 : T_impl_RuleSet) : Option Bool :=
  cl true (M_impl_MonotoneViolation fu p0) fun x2 =>
  cl true (M_impl_IsValidRules fu p0) fun x4 =>
  bd (x4 && (!x2.2.2)) fun x6 =>
  some x6
set_option maxRecDepth 100000 in
set_option maxHeartbeats 4000000 in
theorem M_impl_IsMonotone_ok {fu : Nat} {A0 : Av} {p0 : T_impl_RuleSet} {r : Bool} (hr : M_impl_IsMonotone fu p0 = some r) {w : World} {v0 : Value} (hA : AvOK A0 w) (h0 : Rep E_impl_RuleSet A0 w v0 p0) :
    Calls Try.prog 10 #[v0] w fun e w' => ∃ v, e = .returned v ∧ (v = .bool r ∧ Fr w w') := by
  unfold M_impl_IsMonotone at hr
  obtain ⟨w0, hw0⟩ : ∃ w0, w0 = w := ⟨_, rfl⟩
  have hF : Fr w0 w := hw0 ▸ Fr.refl _
  have hA0 : ∀ b o, A0 b o → b < w0.heap.size := fun b o h => hw0 ▸ hA b o h
  have hA00 : AvOK A0 w0 := hA0
  rw [show Fr w = Fr w0 from hw0 ▸ rfl]
  clear hw0
  obtain ⟨A, hAe⟩ : ∃ A, A = A0 := ⟨_, rfl⟩
  have hAA : ∀ b o, A0 b o → A b o := fun b o h => hAe ▸ h
  replace hA : AvOK A w := hAe ▸ hA
  have hO : IniOK [] A w := IniOK.nil
  refine calls_of_HT2 [.tmp 2] Try.func10 Try.ntmps10 (by decide) rfl rfl (Nat.le_of_ble_eq_true rfl) ?_
  intro R hR
  have f_v0 : Rep E_impl_RuleSet A w v0 p0 := hAe ▸ h0
  replace h0 : R 0 = v0 := hR 0 _ rfl
  clear hR hAe
  refine HT.seq ?_
  refine HT.textR [] (⟨_, true, [], some (.box w0.heap.size 29 E_impl_RuleSet p0), true, fun A => .any⟩ :: ⟨_, true, [], none, true, fun A => .raw (.bool false)⟩ :: []) (by kernel_rfl) (by kernel_rfl) (Wf.mk' (by kernel_rfl) (UAll.cons ust_any (UAll.cons ust_raw (UAll.nil))) (by kernel_rfl) (by kernel_rfl)) hO hA ?_ ?_
  · exact
      OblsR.cons (OblR.made _ rfl rfl rfl rfl fun A' R' w' ho hd => by have a0 : R' 0 = v0 := (ho.old 0 rfl).trans h0; have ra0 := (f_v0.stp ho.stp).eq a0; exact made_box ra0 (Nat.le_trans hF.size ho.ch.size)) <|
      OblsR.cons (OblR.plain rfl rfl rfl rfl fun A' R' w' ho hd => by exact of_assign rfl) <|
      OblsR.nil
  intro done ρ σ A R w hdn hI
  obtain ⟨b1_0, e_b1_0⟩ := hI.boxv hdn 0 rfl rfl
  have h1 : R 1 = (.pointer (some ⟨b1_0, 0, none⟩)) := (hI.opvR hdn 0 0 rfl rfl rfl rfl rfl).symm.trans e_b1_0
  replace hAA := hI.low' hAA hA0 (hO.ge (trivial))
  replace hF : Fr w0 w := hF.tr hI.ch (hO.ge (trivial))
  replace hO : IniOK [ob (.pointer (some ⟨b1_0, 0, none⟩)) (.box w0.heap.size 29 E_impl_RuleSet p0)] A w := hI.left hdn [(0, ob (.pointer (some ⟨b1_0, 0, none⟩)) (.box w0.heap.size 29 E_impl_RuleSet p0))] ⟨rfl, rfl, e_b1_0, rfl, rfl, trivial⟩
  replace hA := hI.avok
  clear hI
  refine HT.seq ?_
  obtain ⟨x2, q3, hr⟩ := cl_some hr
  refine HT.text (l := ⟨_, true, .rep E_impl_RuleSet A p0⟩ :: ⟨_, true, .tup3 (.rep (eSl (eInt .i64)) A x2.1) (.rep (eSl (eInt .i64)) A x2.2.1) (.raw (.bool x2.2.2))⟩ :: ⟨_, true, .tup3 (.rep (eSl (eInt .i64)) A x2.1) (.rep (eSl (eInt .i64)) A x2.2.1) (.raw (.bool x2.2.2))⟩ :: ⟨_, true, .rep (eSl (eInt .i64)) A x2.1⟩ :: ⟨_, true, .rep (eSl (eInt .i64)) A x2.2.1⟩ :: ⟨_, true, .raw (.bool x2.2.2)⟩ :: ⟨_, true, .rep (eSl (eInt .i64)) A x2.1⟩ :: ⟨_, true, .rep (eSl (eInt .i64)) A x2.2.1⟩ :: ⟨_, true, .raw (.bool x2.2.2)⟩ :: []) (tl := []) (by kernel_rfl) (by kernel_rfl) (by kernel_rfl) ?_ ?_
  · exact
      Obls.cons (Obl.plain rfl rfl fun R' w' hw hs hd => by have a0 : R' 1 = (.pointer (some ⟨b1_0, 0, none⟩)) := (hs 1 rfl).trans h1; exact (of_load_box ((hO.fr hw).ok 0 _ rfl).1 a0 (Fld.id _) rfl Try.isAgg29 Try.sizeOf29)) <|
      Obls.cons (Obl.plain rfl rfl fun R' w' hw hs hd => by have a0 : Rep E_impl_RuleSet A w' (R' 7) p0 := hd 0 _ _ _ rfl rfl rfl rfl rfl; exact of_call Try.call13 (M_impl_MonotoneViolation_okR (q3 rfl) (hA.fr hw.size) a0)) <|
      Obls.cons (Obl.plain rfl rfl fun R' w' hw hs hd => by have a0 : Fact.ok (.tup3 (.rep (eSl (eInt .i64)) A x2.1) (.rep (eSl (eInt .i64)) A x2.2.1) (.raw (.bool x2.2.2))) (R' 8) w' := hd 0 _ _ _ rfl rfl rfl rfl rfl; exact of_move a0) <|
      Obls.cons (Obl.plain rfl rfl fun R' w' hw hs hd => by have a0 : Fact.ok (.tup3 (.rep (eSl (eInt .i64)) A x2.1) (.rep (eSl (eInt .i64)) A x2.2.1) (.raw (.bool x2.2.2))) (R' 6) w' := hd 0 _ _ _ rfl rfl rfl rfl rfl; exact of_extract3_0 a0) <|
      Obls.cons (Obl.plain rfl rfl fun R' w' hw hs hd => by have a0 : Fact.ok (.tup3 (.rep (eSl (eInt .i64)) A x2.1) (.rep (eSl (eInt .i64)) A x2.2.1) (.raw (.bool x2.2.2))) (R' 6) w' := hd 0 _ _ _ rfl rfl rfl rfl rfl; exact of_extract3_1 a0) <|
      Obls.cons (Obl.plain rfl rfl fun R' w' hw hs hd => by have a0 : Fact.ok (.tup3 (.rep (eSl (eInt .i64)) A x2.1) (.rep (eSl (eInt .i64)) A x2.2.1) (.raw (.bool x2.2.2))) (R' 6) w' := hd 0 _ _ _ rfl rfl rfl rfl rfl; exact of_extract3_2 a0) <|
      Obls.cons (Obl.plain rfl rfl fun R' w' hw hs hd => by have a0 : Rep (eSl (eInt .i64)) A w' (R' 9) x2.1 := hd 0 _ _ _ rfl rfl rfl rfl rfl; exact of_assign a0) <|
      Obls.cons (Obl.plain rfl rfl fun R' w' hw hs hd => by have a0 : Rep (eSl (eInt .i64)) A w' (R' 10) x2.2.1 := hd 0 _ _ _ rfl rfl rfl rfl rfl; exact of_assign a0) <|
      Obls.cons (Obl.plain rfl rfl fun R' w' hw hs hd => by have a0 : R' 11 = .bool x2.2.2 := hd 0 _ _ _ rfl rfl rfl rfl rfl; exact of_assign a0) <|
      Obls.nil
  intro R w hw hs hF'
  replace h1 : R 1 = (.pointer (some ⟨b1_0, 0, none⟩)) := (hs 1 rfl).trans h1
  have h5 : R 5 = .bool x2.2.2 := hF' 8 _ _ rfl rfl rfl
  replace hO := hO.fr hw
  replace hA := hA.fr hw.size
  replace hF := hF.trans hw
  clear hs hF' hw
  refine seqR_nil ?_
  refine HT.seq ?_
  obtain ⟨x4, q5, hr⟩ := cl_some hr
  obtain ⟨x6, q7, hr⟩ := bd_some hr
  refine HT.text (l := ⟨_, true, .rep E_impl_RuleSet A p0⟩ :: ⟨_, true, .raw (.bool x4)⟩ :: ⟨_, true, .raw (.bool x4)⟩ :: ⟨_, (true && (x4 == true)), .raw (.bool x2.2.2)⟩ :: ⟨_, (true && (x4 == true)), .raw (.bool (!x2.2.2))⟩ :: ⟨_, true, .raw (.bool x6)⟩ :: ⟨_, true, .raw (.bool x6)⟩ :: []) (tl := []) (by kernel_rfl) (by kernel_rfl) (by kernel_rfl) ?_ ?_
  · exact
      Obls.cons (Obl.plain rfl rfl fun R' w' hw hs hd => by have a0 : R' 1 = (.pointer (some ⟨b1_0, 0, none⟩)) := (hs 1 rfl).trans h1; exact (of_load_box ((hO.fr hw).ok 0 _ rfl).1 a0 (Fld.id _) rfl Try.isAgg29 Try.sizeOf29)) <|
      Obls.cons (Obl.plain rfl rfl fun R' w' hw hs hd => by have a0 : Rep E_impl_RuleSet A w' (R' 12) p0 := hd 0 _ _ _ rfl rfl rfl rfl rfl; exact of_call Try.call34 (M_impl_IsValidRules_ok (q5 rfl) (hA.fr hw.size) a0)) <|
      Obls.cons (Obl.plain rfl rfl fun R' w' hw hs hd => by have a0 : R' 13 = .bool x4 := hd 0 _ _ _ rfl rfl rfl rfl rfl; exact of_move a0) <|
      Obls.cons (Obl.grd 2 true _ _ _ rfl rfl rfl rfl rfl (by kernel_rfl) fun hg R' w' hw hs hd => by have a0 : R' 5 = .bool x2.2.2 := (hs 5 rfl).trans h5; exact of_move a0) <|
      Obls.cons (Obl.grd 2 true _ _ _ rfl rfl rfl rfl rfl (by kernel_rfl) fun hg R' w' hw hs hd => by have a0 : R' 15 = .bool x2.2.2 := hd 0 _ _ _ rfl rfl rfl rfl hg; exact of_not a0) <|
      Obls.cons (Obl.plain rfl rfl fun R' w' hw hs hd => by have a0 : R' 14 = .bool x4 := hd 0 _ _ _ rfl rfl rfl rfl rfl; exact of_pick x4 a0 (fun hc => by have a1 : R' 16 = .bool (!x2.2.2) := hd 1 _ _ _ rfl rfl rfl rfl (g_and rfl (beq_of hc)); show _ = Value.bool x6; rw [q7, hc]; exact a1) (fun hc => by show _ = Value.bool x6; rw [q7, hc]; exact rfl)) <|
      Obls.cons (Obl.plain rfl rfl fun R' w' hw hs hd => by have a0 : R' 17 = .bool x6 := hd 0 _ _ _ rfl rfl rfl rfl rfl; exact of_assign a0) <|
      Obls.nil
  intro R w hw hs hF'
  have h2 : R 2 = .bool x6 := hF' 6 _ _ rfl rfl rfl
  replace hO := hO.fr hw
  replace hO : IniOK [] A w := hO.sub [] trivial
  replace hA := hA.fr hw.size
  replace hF := hF.trans hw
  clear hs hF' hw
  refine seqR_nil ?_
  refine HT.ret ?_
  obtain rfl := Option.some.inj hr
  exact ⟨.inr rfl, [R 2], ⟨rfl, trivial⟩, h2, hF⟩
def M_laws_FnExactIsMonotone (fu : Nat) (p0 : T_laws_RuleSet) : Option Bool :=
  cl true (M_laws_szRuleSet fu p0 (1048576 : Int)) fun x2 =>
  bif (decide (x2 < (0 : Int))) then (
    some true
  ) else (
    cl true (M_laws_toRuleSet fu p0) fun x5 =>
    cl true (M_spec_IsMonotone fu x5) fun x7 =>
    cl true (M_laws_toRuleSet fu p0) fun x9 =>
    cl true (M_impl_IsMonotone fu x9) fun x14 =>
    bif (x14 != x7) then (
      some false
    ) else (
      cl true (M_laws_toRuleSet fu p0) fun x17 =>
      cl true (M_laws_eqRuleSet fu x9 x17) fun x19 =>
      bif (!x19) then (
        some false
      ) else (
        some true
      )
    )
  )
set_option maxRecDepth 100000 in
set_option maxHeartbeats 4000000 in
theorem M_laws_FnExactIsMonotone_ok {fu : Nat} {A0 : Av} {p0 : T_laws_RuleSet} {r : Bool} (hr : M_laws_FnExactIsMonotone fu p0 = some r) {w : World} {v0 : Value} (hA : AvOK A0 w) (h0 : Rep E_laws_RuleSet A0 w v0 p0) :
    Calls Try.prog 3 #[v0] w fun e w' => ∃ v, e = .returned v ∧ (v = .bool r ∧ Fr w w') := by
  unfold M_laws_FnExactIsMonotone at hr
  obtain ⟨w0, hw0⟩ : ∃ w0, w0 = w := ⟨_, rfl⟩
  have hF : Fr w0 w := hw0 ▸ Fr.refl _
  have hA0 : ∀ b o, A0 b o → b < w0.heap.size := fun b o h => hw0 ▸ hA b o h
  have hA00 : AvOK A0 w0 := hA0
  rw [show Fr w = Fr w0 from hw0 ▸ rfl]
  clear hw0
  obtain ⟨A, hAe⟩ : ∃ A, A = A0 := ⟨_, rfl⟩
  have hAA : ∀ b o, A0 b o → A b o := fun b o h => hAe ▸ h
  replace hA : AvOK A w := hAe ▸ hA
  have hO : IniOK [] A w := IniOK.nil
  refine calls_of_HT2 [.tmp 2] Try.func3 Try.ntmps3 (by decide) rfl rfl (Nat.le_of_ble_eq_true rfl) ?_
  intro R hR
  have f_v0 : Rep E_laws_RuleSet A w v0 p0 := hAe ▸ h0
  replace h0 : R 0 = v0 := hR 0 _ rfl
  clear hR hAe
  refine HT.seq ?_
  refine HT.textR [] (⟨_, true, [], some (.box w0.heap.size 24 E_laws_RuleSet p0), true, fun A => .any⟩ :: ⟨_, true, [], none, true, fun A => .raw (.bool false)⟩ :: []) (by kernel_rfl) (by kernel_rfl) (Wf.mk' (by kernel_rfl) (UAll.cons ust_any (UAll.cons ust_raw (UAll.nil))) (by kernel_rfl) (by kernel_rfl)) hO hA ?_ ?_
  · exact
      OblsR.cons (OblR.made _ rfl rfl rfl rfl fun A' R' w' ho hd => by have a0 : R' 0 = v0 := (ho.old 0 rfl).trans h0; have ra0 := (f_v0.stp ho.stp).eq a0; exact made_box ra0 (Nat.le_trans hF.size ho.ch.size)) <|
      OblsR.cons (OblR.plain rfl rfl rfl rfl fun A' R' w' ho hd => by exact of_assign rfl) <|
      OblsR.nil
  intro done ρ σ A R w hdn hI
  obtain ⟨b1_0, e_b1_0⟩ := hI.boxv hdn 0 rfl rfl
  have h1 : R 1 = (.pointer (some ⟨b1_0, 0, none⟩)) := (hI.opvR hdn 0 0 rfl rfl rfl rfl rfl).symm.trans e_b1_0
  replace hAA := hI.low' hAA hA0 (hO.ge (trivial))
  replace hF : Fr w0 w := hF.tr hI.ch (hO.ge (trivial))
  replace hO : IniOK [ob (.pointer (some ⟨b1_0, 0, none⟩)) (.box w0.heap.size 24 E_laws_RuleSet p0)] A w := hI.left hdn [(0, ob (.pointer (some ⟨b1_0, 0, none⟩)) (.box w0.heap.size 24 E_laws_RuleSet p0))] ⟨rfl, rfl, e_b1_0, rfl, rfl, trivial⟩
  replace hA := hI.avok
  clear hI
  refine HT.seq ?_
  refine HT.text (l := ⟨_, true, .raw (.int .i64 (1048576 : Int))⟩ :: []) (tl := []) (by kernel_rfl) (by kernel_rfl) (by kernel_rfl) ?_ ?_
  · exact
      Obls.cons (Obl.plain rfl rfl fun R' w' hw hs hd => by exact of_assign rfl) <|
      Obls.nil
  intro R w hw hs hF'
  replace h1 : R 1 = (.pointer (some ⟨b1_0, 0, none⟩)) := (hs 1 rfl).trans h1
  have h3 : R 3 = .int .i64 (1048576 : Int) := hF' 0 _ _ rfl rfl rfl
  replace hO := hO.fr hw
  replace hA := hA.fr hw.size
  replace hF := hF.trans hw
  clear hs hF' hw
  refine seqR_nil ?_
  refine HT.seq ?_
  obtain ⟨x2, q3, hr⟩ := cl_some hr
  refine HT.text (l := ⟨_, true, .rep E_laws_RuleSet A p0⟩ :: ⟨_, true, .raw (.int .i64 (1048576 : Int))⟩ :: ⟨_, true, .raw (.int .i64 x2)⟩ :: ⟨_, true, .raw (.int .i64 x2)⟩ :: []) (tl := []) (by kernel_rfl) (by kernel_rfl) (by kernel_rfl) ?_ ?_
  · exact
      Obls.cons (Obl.plain rfl rfl fun R' w' hw hs hd => by have a0 : R' 1 = (.pointer (some ⟨b1_0, 0, none⟩)) := (hs 1 rfl).trans h1; exact (of_load_box ((hO.fr hw).ok 0 _ rfl).1 a0 (Fld.id _) rfl Try.isAgg24 Try.sizeOf24)) <|
      Obls.cons (Obl.plain rfl rfl fun R' w' hw hs hd => by have a0 : R' 3 = .int .i64 (1048576 : Int) := (hs 3 rfl).trans h3; exact of_move a0) <|
      Obls.cons (Obl.plain rfl rfl fun R' w' hw hs hd => by have a0 : Rep E_laws_RuleSet A w' (R' 7) p0 := hd 0 _ _ _ rfl rfl rfl rfl rfl; have a1 : R' 8 = .int .i64 (1048576 : Int) := hd 1 _ _ _ rfl rfl rfl rfl rfl; exact of_call Try.call7 (M_laws_szRuleSet_ok (q3 rfl) (hA.fr hw.size) a0 a1)) <|
      Obls.cons (Obl.plain rfl rfl fun R' w' hw hs hd => by have a0 : R' 9 = .int .i64 x2 := hd 0 _ _ _ rfl rfl rfl rfl rfl; exact of_assign a0) <|
      Obls.nil
  intro R w hw hs hF'
  replace h1 : R 1 = (.pointer (some ⟨b1_0, 0, none⟩)) := (hs 1 rfl).trans h1
  have h3 : R 3 = .int .i64 x2 := hF' 3 _ _ rfl rfl rfl
  replace hO := hO.fr hw
  replace hA := hA.fr hw.size
  replace hF := hF.trans hw
  clear hs hF' hw
  refine seqR_nil ?_
  refine HT.seq ?_
  refine HT.seq ?_
  refine HT.text (l := ⟨_, true, .raw (.int .i64 x2)⟩ :: ⟨_, true, .raw (.bool (decide (x2 < (0 : Int))))⟩ :: []) (tl := []) (by kernel_rfl) (by kernel_rfl) (by kernel_rfl) ?_ ?_
  · exact
      Obls.cons (Obl.plain rfl rfl fun R' w' hw hs hd => by have a0 : R' 3 = .int .i64 x2 := (hs 3 rfl).trans h3; exact of_move a0) <|
      Obls.cons (Obl.plain rfl rfl fun R' w' hw hs hd => by have a0 : R' 10 = .int .i64 x2 := hd 0 _ _ _ rfl rfl rfl rfl rfl; exact of_lss a0 rfl) <|
      Obls.nil
  intro R w hw hs hF'
  replace h1 : R 1 = (.pointer (some ⟨b1_0, 0, none⟩)) := (hs 1 rfl).trans h1
  have h11 : R 11 = .bool (decide (x2 < (0 : Int))) := hF' 1 _ _ rfl rfl rfl
  replace hO := hO.fr hw
  replace hA := hA.fr hw.size
  replace hF := hF.trans hw
  clear hs hF' hw
  refine seqR_nil ?_
  refine HT.cond (decide (x2 < (0 : Int))) h11 (fun c4 => ?_) (fun c4 => ?_)
  · have hr := cnd_t c4 hr
    refine HT.seq ?_
    refine HT.text (l := ⟨_, true, .raw (.bool true)⟩ :: []) (tl := []) (by kernel_rfl) (by kernel_rfl) (by kernel_rfl) ?_ ?_
    · exact
        Obls.cons (Obl.plain rfl rfl fun R' w' hw hs hd => by exact of_assign rfl) <|
        Obls.nil
    intro R w hw hs hF'
    have h2 : R 2 = .bool true := hF' 0 _ _ rfl rfl rfl
    replace hO := hO.fr hw
    replace hO : IniOK [] A w := hO.sub [] trivial
    replace hA := hA.fr hw.size
    replace hF := hF.trans hw
    clear hs hF' hw
    refine seqR_nil ?_
    refine HT.ret ?_
    obtain rfl := Option.some.inj hr
    exact ⟨.inr rfl, [R 2], ⟨rfl, trivial⟩, h2, hF⟩
  · have hr := cnd_f c4 hr
    refine HT.skip ?_
    refine HT.seq ?_
    obtain ⟨x5, q6, hr⟩ := cl_some hr
    obtain ⟨x7, q8, hr⟩ := cl_some hr
    refine HT.text (l := ⟨_, true, .rep E_laws_RuleSet A p0⟩ :: ⟨_, true, .rep E_impl_RuleSet A x5⟩ :: ⟨_, true, .raw (.bool x7)⟩ :: ⟨_, true, .raw (.bool x7)⟩ :: []) (tl := []) (by kernel_rfl) (by kernel_rfl) (by kernel_rfl) ?_ ?_
    · exact
        Obls.cons (Obl.plain rfl rfl fun R' w' hw hs hd => by have a0 : R' 1 = (.pointer (some ⟨b1_0, 0, none⟩)) := (hs 1 rfl).trans h1; exact (of_load_box ((hO.fr hw).ok 0 _ rfl).1 a0 (Fld.id _) rfl Try.isAgg24 Try.sizeOf24)) <|
        Obls.cons (Obl.plain rfl rfl fun R' w' hw hs hd => by have a0 : Rep E_laws_RuleSet A w' (R' 12) p0 := hd 0 _ _ _ rfl rfl rfl rfl rfl; exact of_call Try.call9 (M_laws_toRuleSet_okR (q6 rfl) (hA.fr hw.size) a0)) <|
        Obls.cons (Obl.plain rfl rfl fun R' w' hw hs hd => by have a0 : Rep E_impl_RuleSet A w' (R' 13) x5 := hd 0 _ _ _ rfl rfl rfl rfl rfl; exact of_call Try.call8 (M_spec_IsMonotone_ok (q8 rfl) (hA.fr hw.size) a0)) <|
        Obls.cons (Obl.plain rfl rfl fun R' w' hw hs hd => by have a0 : R' 14 = .bool x7 := hd 0 _ _ _ rfl rfl rfl rfl rfl; exact of_assign a0) <|
        Obls.nil
    intro R w hw hs hF'
    replace h1 : R 1 = (.pointer (some ⟨b1_0, 0, none⟩)) := (hs 1 rfl).trans h1
    have h4 : R 4 = .bool x7 := hF' 3 _ _ rfl rfl rfl
    replace hO := hO.fr hw
    replace hA := hA.fr hw.size
    replace hF := hF.trans hw
    clear hs hF' hw
    refine seqR_nil ?_
    refine HT.seq ?_
    obtain ⟨x9, q10, hr⟩ := cl_some hr
    refine HT.textR [ob (.pointer (some ⟨b1_0, 0, none⟩)) (.box w0.heap.size 24 E_laws_RuleSet p0)] (⟨_, true, [], none, true, fun A => .rep E_laws_RuleSet A p0⟩ :: ⟨_, true, [], none, true, fun A => .rep E_impl_RuleSet A x9⟩ :: ⟨_, true, [], some (.box w0.heap.size 29 E_impl_RuleSet ([] : List T_impl_Rule)), true, fun A => .any⟩ :: ⟨_, true, [3], some (.box w0.heap.size 29 E_impl_RuleSet x9), false, fun A => .any⟩ :: []) (by kernel_rfl) (by kernel_rfl) (Wf.mk' (by kernel_rfl) (UAll.cons ust_rep (UAll.cons ust_rep (UAll.cons ust_any (UAll.cons ust_any (UAll.nil))))) (by kernel_rfl) (by kernel_rfl)) hO hA ?_ ?_
    · exact
        OblsR.cons (OblR.plain rfl rfl rfl rfl fun A' R' w' ho hd => by have a0 : R' 1 = (.pointer (some ⟨b1_0, 0, none⟩)) := (ho.old 1 rfl).trans h1; exact (of_load_box (ho.rd 0 _ rfl rfl) a0 (Fld.id _) rfl Try.isAgg24 Try.sizeOf24)) <|
        OblsR.cons (OblR.plain rfl rfl rfl rfl fun A' R' w' ho hd => by have a0 : Rep E_laws_RuleSet A' w' (R' 15) p0 := hd 0 _ _ _ rfl rfl rfl rfl rfl; exact of_call Try.call9 (M_laws_toRuleSet_okR (q10 rfl) ho.av a0)) <|
        OblsR.cons (OblR.made _ rfl rfl rfl rfl fun A' R' w' ho hd => by exact made_alloc Try.zeroValue29 (fun A w => rep1_nil) (Nat.le_trans hF.size ho.ch.size)) <|
        OblsR.cons (OblR.took 3 _ _ rfl rfl rfl rfl rfl fun A' R' w' ho hd u hok hav hin hop hds => by have a1 : Rep E_impl_RuleSet A' w' (R' 16) x9 := hd 1 _ _ _ rfl rfl rfl rfl rfl; obtain ⟨b, hb, hB', hbx⟩ := hok; have hop' := hop _ _ rfl rfl rfl rfl; exact took_store a1 (hop'.symm.trans hb) hb ⟨b, hb, hB', hbx⟩ hav (FldS.id _) Try.sizeOf29 rfl) <|
        OblsR.nil
    intro done ρ σ A R w hdn hI
    replace h1 : R 1 = (.pointer (some ⟨b1_0, 0, none⟩)) := (hI.reg rfl).trans h1
    replace h4 : R 4 = .bool x7 := (hI.reg rfl).trans h4
    have z11 := hI.inivR 0 rfl
    obtain ⟨b5_11, e_b5_11⟩ := hI.boxv hdn 4 rfl rfl
    have z13 := (hI.opnR hdn 4 3 rfl rfl rfl rfl rfl).symm.trans e_b5_11
    have h5 : R 5 = (.pointer (some ⟨b5_11, 0, none⟩)) := (hI.opvR hdn 3 2 rfl rfl rfl rfl rfl).symm.trans z13
    replace hAA := hI.low' hAA hA0 (hO.ge (⟨rfl, trivial⟩))
    replace hF : Fr w0 w := hF.tr hI.ch (hO.ge (⟨rfl, trivial⟩))
    replace hO : IniOK [ob (.pointer (some ⟨b1_0, 0, none⟩)) (.box w0.heap.size 24 E_laws_RuleSet p0), ob (.pointer (some ⟨b5_11, 0, none⟩)) (.box w0.heap.size 29 E_impl_RuleSet x9)] A w := hI.left hdn [(0, ob (.pointer (some ⟨b1_0, 0, none⟩)) (.box w0.heap.size 24 E_laws_RuleSet p0)), (4, ob (.pointer (some ⟨b5_11, 0, none⟩)) (.box w0.heap.size 29 E_impl_RuleSet x9))] ⟨rfl, rfl, z11, rfl, rfl, ⟨rfl, rfl, e_b5_11, rfl, rfl, trivial⟩⟩
    replace hA := hI.avok
    clear hI
    refine HT.seq ?_
    obtain ⟨x14, q15, hr⟩ := cl_some hr
    refine HT.text (l := ⟨_, true, .rep E_impl_RuleSet A x9⟩ :: ⟨_, true, .raw (.bool x14)⟩ :: ⟨_, true, .raw (.bool x14)⟩ :: []) (tl := []) (by kernel_rfl) (by kernel_rfl) (by kernel_rfl) ?_ ?_
    · exact
        Obls.cons (Obl.plain rfl rfl fun R' w' hw hs hd => by have a0 : R' 5 = (.pointer (some ⟨b5_11, 0, none⟩)) := (hs 5 rfl).trans h5; exact (of_load_box ((hO.fr hw).ok 1 _ rfl).1 a0 (Fld.id _) rfl Try.isAgg29 Try.sizeOf29)) <|
        Obls.cons (Obl.plain rfl rfl fun R' w' hw hs hd => by have a0 : Rep E_impl_RuleSet A w' (R' 17) x9 := hd 0 _ _ _ rfl rfl rfl rfl rfl; exact of_call Try.call10 (M_impl_IsMonotone_ok (q15 rfl) (hA.fr hw.size) a0)) <|
        Obls.cons (Obl.plain rfl rfl fun R' w' hw hs hd => by have a0 : R' 18 = .bool x14 := hd 0 _ _ _ rfl rfl rfl rfl rfl; exact of_assign a0) <|
        Obls.nil
    intro R w hw hs hF'
    replace h1 : R 1 = (.pointer (some ⟨b1_0, 0, none⟩)) := (hs 1 rfl).trans h1
    replace h4 : R 4 = .bool x7 := (hs 4 rfl).trans h4
    replace h5 : R 5 = (.pointer (some ⟨b5_11, 0, none⟩)) := (hs 5 rfl).trans h5
    have h6 : R 6 = .bool x14 := hF' 2 _ _ rfl rfl rfl
    replace hO := hO.fr hw
    replace hA := hA.fr hw.size
    replace hF := hF.trans hw
    clear hs hF' hw
    refine seqR_nil ?_
    refine HT.seq ?_
    refine HT.seq ?_
    refine HT.text (l := ⟨_, true, .raw (.bool x14)⟩ :: ⟨_, true, .raw (.bool x7)⟩ :: ⟨_, true, .raw (.bool (x14 != x7))⟩ :: []) (tl := []) (by kernel_rfl) (by kernel_rfl) (by kernel_rfl) ?_ ?_
    · exact
        Obls.cons (Obl.plain rfl rfl fun R' w' hw hs hd => by have a0 : R' 6 = .bool x14 := (hs 6 rfl).trans h6; exact of_move a0) <|
        Obls.cons (Obl.plain rfl rfl fun R' w' hw hs hd => by have a0 : R' 4 = .bool x7 := (hs 4 rfl).trans h4; exact of_move a0) <|
        Obls.cons (Obl.plain rfl rfl fun R' w' hw hs hd => by have a0 : R' 19 = .bool x14 := hd 0 _ _ _ rfl rfl rfl rfl rfl; have a1 : R' 20 = .bool x7 := hd 1 _ _ _ rfl rfl rfl rfl rfl; exact of_bneq Try.underlying4 a0 a1) <|
        Obls.nil
    intro R w hw hs hF'
    replace h1 : R 1 = (.pointer (some ⟨b1_0, 0, none⟩)) := (hs 1 rfl).trans h1
    replace h5 : R 5 = (.pointer (some ⟨b5_11, 0, none⟩)) := (hs 5 rfl).trans h5
    have h21 : R 21 = .bool (x14 != x7) := hF' 2 _ _ rfl rfl rfl
    replace hO := hO.fr hw
    replace hA := hA.fr hw.size
    replace hF := hF.trans hw
    clear hs hF' hw
    refine seqR_nil ?_
    refine HT.cond (x14 != x7) h21 (fun c16 => ?_) (fun c16 => ?_)
    · have hr := cnd_t c16 hr
      refine HT.seq ?_
      refine HT.text (l := ⟨_, true, .raw (.bool false)⟩ :: []) (tl := []) (by kernel_rfl) (by kernel_rfl) (by kernel_rfl) ?_ ?_
      · exact
          Obls.cons (Obl.plain rfl rfl fun R' w' hw hs hd => by exact of_assign rfl) <|
          Obls.nil
      intro R w hw hs hF'
      have h2 : R 2 = .bool false := hF' 0 _ _ rfl rfl rfl
      replace hO := hO.fr hw
      replace hO : IniOK [] A w := hO.sub [] trivial
      replace hA := hA.fr hw.size
      replace hF := hF.trans hw
      clear hs hF' hw
      refine seqR_nil ?_
      refine HT.ret ?_
      obtain rfl := Option.some.inj hr
      exact ⟨.inr rfl, [R 2], ⟨rfl, trivial⟩, h2, hF⟩
    · have hr := cnd_f c16 hr
      refine HT.skip ?_
      refine HT.seq ?_
      refine HT.seq ?_
      obtain ⟨x17, q18, hr⟩ := cl_some hr
      obtain ⟨x19, q20, hr⟩ := cl_some hr
      refine HT.draw (by kernel_rfl) (l := ⟨_, true, .rep E_impl_RuleSet A x9⟩ :: ⟨_, true, .rep E_laws_RuleSet A p0⟩ :: ⟨_, true, .rep E_impl_RuleSet A x17⟩ :: ⟨_, true, .raw (.bool x19)⟩ :: ⟨_, true, .raw (.bool (!x19))⟩ :: []) (tl := []) (by kernel_rfl) (by kernel_rfl) (by kernel_rfl) (by kernel_rfl) ?_ ?_
      · exact
          Obls.cons (Obl.plain rfl rfl fun R' w' hw hs hd => by have a0 : R' 5 = (.pointer (some ⟨b5_11, 0, none⟩)) := (hs 5 rfl).trans h5; exact (of_load_box ((hO.fr hw).ok 1 _ rfl).1 a0 (Fld.id _) rfl Try.isAgg29 Try.sizeOf29)) <|
          Obls.cons (Obl.plain rfl rfl fun R' w' hw hs hd => by have a0 : R' 1 = (.pointer (some ⟨b1_0, 0, none⟩)) := (hs 1 rfl).trans h1; exact (of_load_box ((hO.fr hw).ok 0 _ rfl).1 a0 (Fld.id _) rfl Try.isAgg24 Try.sizeOf24)) <|
          Obls.cons (Obl.plain rfl rfl fun R' w' hw hs hd => by have a0 : Rep E_laws_RuleSet A w' (R' 23) p0 := hd 0 _ _ _ rfl rfl rfl rfl rfl; exact of_call Try.call9 (M_laws_toRuleSet_okR (q18 rfl) (hA.fr hw.size) a0)) <|
          Obls.cons (Obl.plain rfl rfl fun R' w' hw hs hd => by have a0 : Rep E_impl_RuleSet A w' (R' 22) x9 := hd 0 _ _ _ rfl rfl rfl rfl rfl; have a1 : Rep E_impl_RuleSet A w' (R' 24) x17 := hd 1 _ _ _ rfl rfl rfl rfl rfl; exact of_call Try.call11 (M_laws_eqRuleSet_ok (q20 rfl) (hA.fr hw.size) a0 a1)) <|
          Obls.cons (Obl.plain rfl rfl fun R' w' hw hs hd => by have a0 : R' 25 = .bool x19 := hd 0 _ _ _ rfl rfl rfl rfl rfl; exact of_not a0) <|
          Obls.nil
      intro R w hw hs hF'
      have h26 : R 26 = .bool (!x19) := hF' 4 _ _ rfl rfl rfl
      replace hO := hO.fr hw
      replace hO : IniOK [] A w := hO.sub [] trivial
      replace hA := hA.fr hw.size
      replace hF := hF.trans hw
      clear hs hF' hw
      refine seqR_nil ?_
      refine HT.cond (!x19) h26 (fun c21 => ?_) (fun c21 => ?_)
      · have hr := cnd_t c21 hr
        refine HT.seq ?_
        refine HT.text (l := ⟨_, true, .raw (.bool false)⟩ :: []) (tl := []) (by kernel_rfl) (by kernel_rfl) (by kernel_rfl) ?_ ?_
        · exact
            Obls.cons (Obl.plain rfl rfl fun R' w' hw hs hd => by exact of_assign rfl) <|
            Obls.nil
        intro R w hw hs hF'
        have h2 : R 2 = .bool false := hF' 0 _ _ rfl rfl rfl
        replace hO := hO.fr hw
        replace hA := hA.fr hw.size
        replace hF := hF.trans hw
        clear hs hF' hw
        refine seqR_nil ?_
        refine HT.ret ?_
        obtain rfl := Option.some.inj hr
        exact ⟨.inr rfl, [R 2], ⟨rfl, trivial⟩, h2, hF⟩
      · have hr := cnd_f c21 hr
        refine HT.skip ?_
        refine HT.seq ?_
        refine HT.text (l := ⟨_, true, .raw (.bool true)⟩ :: []) (tl := []) (by kernel_rfl) (by kernel_rfl) (by kernel_rfl) ?_ ?_
        · exact
            Obls.cons (Obl.plain rfl rfl fun R' w' hw hs hd => by exact of_assign rfl) <|
            Obls.nil
        intro R w hw hs hF'
        have h2 : R 2 = .bool true := hF' 0 _ _ rfl rfl rfl
        replace hO := hO.fr hw
        replace hA := hA.fr hw.size
        replace hF := hF.trans hw
        clear hs hF' hw
        refine seqR_nil ?_
        refine HT.ret ?_
        obtain rfl := Option.some.inj hr
        exact ⟨.inr rfl, [R 2], ⟨rfl, trivial⟩, h2, hF⟩
end Go.Proofs.Ytmkgocdgkdglnaa
