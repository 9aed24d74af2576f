/- Printed by dec.py: plain functions and the proofs that the code computes them. No statement of the seat is proved here. -/
import Derived.Test.YtmgiijdejigdhaaE5
namespace Go.Proofs.Ytmgiijdejigdhaa
open Go.RowKit
set_option linter.unusedVariables false
def M_spec_InsertSet_L0 (fu : Nat) (p1 : Int) (x3 : T_impl_SetIndex) : Nat → Int → Option Int
  | 0, _ => none
  | k + 1, y32 =>
    ck (!(true && ((decide (y32 < (x3.2.2.length : Int))) == true)) || inR y32 x3.2.2.length) <|
    bd ((decide (y32 < (x3.2.2.length : Int))) && (decide (((gtD x3.2.2 y32).1) < p1))) fun x34 =>
    bif x34 then (
      ck (i64B (y32 + (1 : Int))) <|
      M_spec_InsertSet_L0 fu p1 x3 k (y32 + (1 : Int))
    ) else (
      some y32
    )
def M_spec_InsertSet (fu : Nat) (p0 : T_impl_SetIndex) (p1 : Int) (p2 : List (List UInt8)) : Option (T_impl_SetIndex × Bool) :=
  cl true (M_spec_l12Copy fu p0) fun x3 =>
  cl true (M_spec_IsValidSetIndex fu p0) fun x9 =>
  cl (true && ((!x9) == false)) (M_spec_IsTokenSet fu p2) fun x11 =>
  bd ((!x9) || (!x11)) fun x13 =>
  cl (true && (x13 == false)) (M_spec_l1In fu p1 (0 : Int) (999 : Int)) fun x15 =>
  bd (x13 || (!x15)) fun x17 =>
  cl (true && (x17 == false)) (M_spec_l12Find fu p0 p1) fun x19 =>
  bd (x17 || (decide ((0 : Int) ≤ x19))) fun x21 =>
  bd (x21 || ((p0.2.2.length : Int) == (12 : Int))) fun x23 =>
  bif x23 then (
    some (x3, false)
  ) else (
    cl true (M_spec_InsertSet_L0 fu p1 x3 fu (0 : Int)) fun s31 =>
    ck (lenOK (([] : List (List UInt8)).length + p2.length)) <|
    ck (subR 0 s31 x3.2.2.length) <|
    ck (lenOK (([] : List T_impl_IndexedSet).length + (subL x3.2.2 0 s31).length)) <|
    ck (lenOK ((([] : List T_impl_IndexedSet) ++ (subL x3.2.2 0 s31)).length + ([(p1, (([] : List (List UInt8)) ++ p2))] : List T_impl_IndexedSet).length)) <|
    ck (subR s31 (x3.2.2.length : Int) x3.2.2.length) <|
    ck (lenOK (((([] : List T_impl_IndexedSet) ++ (subL x3.2.2 0 s31)) ++ ([(p1, (([] : List (List UInt8)) ++ p2))] : List T_impl_IndexedSet)).length + (subL x3.2.2 s31 (x3.2.2.length : Int)).length)) <|
    some ((x3.1, x3.2.1, (((([] : List T_impl_IndexedSet) ++ (subL x3.2.2 0 s31)) ++ ([(p1, (([] : List (List UInt8)) ++ p2))] : List T_impl_IndexedSet)) ++ (subL x3.2.2 s31 (x3.2.2.length : Int)))), true)
  )
set_option linter.unusedSimpArgs false in
set_option maxRecDepth 100000 in
set_option maxHeartbeats 4000000 in
theorem M_spec_InsertSet_ok {fu : Nat} {A0 : Av} {p0 : T_impl_SetIndex} {p1 : Int} {p2 : List (List UInt8)} {r : T_impl_SetIndex × Bool} (hr : M_spec_InsertSet fu p0 p1 p2 = some r) {w : World} {v0 : Value} {v1 : Value} {v2 : Value} (hA : AvOK A0 w) (h0 : Rep E_impl_SetIndex A0 w v0 p0) (h1 : v1 = .int .i64 p1) (h2 : Rep (eSl eStr) A0 w v2 p2) :
    Calls Try.prog 13 #[v0, v1, v2] w fun e w' => ∃ v, e = .returned v ∧ ((∃ a b, v = .tuple #[a, b] ∧ Rep E_impl_SetIndex A0 w' a r.1 ∧ b = .bool r.2) ∧ Fr w w') := by
  unfold M_spec_InsertSet at hr
  obtain ⟨w0, hw0⟩ : ∃ w0, w0 = w := ⟨_, rfl⟩
  have hF : Fr w0 w := hw0 ▸ Fr.refl _
  have hA0 : ∀ b o, A0 b o → b < w0.heap.size := fun b o h => hw0 ▸ hA b o h
  have hA00 : AvOK A0 w0 := hA0
  rw [show Fr w = Fr w0 from hw0 ▸ rfl]
  clear hw0
  obtain ⟨A, hAe⟩ : ∃ A, A = A0 := ⟨_, rfl⟩
  have hAA : ∀ b o, A0 b o → A b o := fun b o h => hAe ▸ h
  replace hA : AvOK A w := hAe ▸ hA
  have hO : IniOK [] A w := IniOK.nil
  refine calls_of_HT2 [.cell 6 30, .tmp 7] Try.func13 Try.ntmps13 (by decide) rfl rfl (Nat.le_of_ble_eq_true rfl) ?_
  intro R hR
  have f_v0 : Rep E_impl_SetIndex A w v0 p0 := hAe ▸ h0
  replace h0 : R 0 = v0 := hR 0 _ rfl
  replace h1 : R 1 = .int .i64 p1 := (hR 1 _ rfl).trans h1
  have f_v2 : Rep (eSl eStr) A w v2 p2 := hAe ▸ h2
  replace h2 : R 2 = v2 := hR 2 _ rfl
  clear hR hAe
  refine HT.seq ?_
  refine HT.textR [] (⟨_, true, [], some (.box w0.heap.size 30 E_impl_SetIndex p0), true, fun A => .any⟩ :: ⟨_, true, [], some (.box w0.heap.size 30 E_impl_SetIndex ((0 : Int), (([] : List T_impl_TokenCount), ([] : List T_impl_IndexedSet)))), true, fun A => .any⟩ :: ⟨_, true, [], none, true, fun A => .raw (.bool false)⟩ :: []) (by kernel_rfl) (by kernel_rfl) (Wf.mk' (by kernel_rfl) (UAll.cons ust_any (UAll.cons ust_any (UAll.cons ust_raw (UAll.nil)))) (by kernel_rfl) (by kernel_rfl)) hO hA ?_ ?_
  · exact
      OblsR.cons (OblR.made _ rfl rfl rfl rfl fun A' R' w' ho hd => by have a0 : R' 0 = v0 := (ho.old 0 rfl).trans h0; have ra0 := (f_v0.stp ho.stp).eq a0; exact made_box ra0 (Nat.le_trans hF.size ho.ch.size)) <|
      OblsR.cons (OblR.made _ rfl rfl rfl rfl fun A' R' w' ho hd => by exact made_alloc Try.zeroValue30 (fun A w => rep_pr rep1_int (rep_pr rep1_nil rep1_nil)) (Nat.le_trans hF.size ho.ch.size)) <|
      OblsR.cons (OblR.plain rfl rfl rfl rfl fun A' R' w' ho hd => by exact of_assign rfl) <|
      OblsR.nil
  intro done ρ σ A R w hdn hI
  replace h1 : R 1 = .int .i64 p1 := (hI.reg rfl).trans h1
  replace h2 : R 2 = v2 := (hI.reg rfl).trans h2
  obtain ⟨b3_0, e_b3_0⟩ := hI.boxv hdn 0 rfl rfl
  have h3 : R 3 = (.pointer (some ⟨b3_0, 0, none⟩)) := (hI.opvR hdn 0 0 rfl rfl rfl rfl rfl).symm.trans e_b3_0
  obtain ⟨b6_1, e_b6_1⟩ := hI.boxv hdn 1 rfl rfl
  have h6 : R 6 = (.pointer (some ⟨b6_1, 0, none⟩)) := (hI.opvR hdn 1 1 rfl rfl rfl rfl rfl).symm.trans e_b6_1
  replace f_v2 := f_v2.stp hI.stp
  replace hAA := hI.low' hAA hA0 (hO.ge (trivial))
  replace hF : Fr w0 w := hF.tr hI.ch (hO.ge (trivial))
  replace hO : IniOK [ob (.pointer (some ⟨b3_0, 0, none⟩)) (.box w0.heap.size 30 E_impl_SetIndex p0), ob (.pointer (some ⟨b6_1, 0, none⟩)) (.box w0.heap.size 30 E_impl_SetIndex ((0 : Int), (([] : List T_impl_TokenCount), ([] : List T_impl_IndexedSet))))] A w := hI.left hdn [(0, ob (.pointer (some ⟨b3_0, 0, none⟩)) (.box w0.heap.size 30 E_impl_SetIndex p0)), (1, ob (.pointer (some ⟨b6_1, 0, none⟩)) (.box w0.heap.size 30 E_impl_SetIndex ((0 : Int), (([] : List T_impl_TokenCount), ([] : List T_impl_IndexedSet)))))] ⟨rfl, rfl, e_b3_0, rfl, rfl, ⟨rfl, rfl, e_b6_1, rfl, rfl, trivial⟩⟩
  replace hA := hI.avok
  clear hI
  refine HT.seq ?_
  obtain ⟨x3, q4, hr⟩ := cl_some hr
  refine HT.textR [ob (.pointer (some ⟨b3_0, 0, none⟩)) (.box w0.heap.size 30 E_impl_SetIndex p0), ob (.pointer (some ⟨b6_1, 0, none⟩)) (.box w0.heap.size 30 E_impl_SetIndex ((0 : Int), (([] : List T_impl_TokenCount), ([] : List T_impl_IndexedSet))))] (⟨_, true, [], none, true, fun A => .rep E_impl_SetIndex A p0⟩ :: ⟨_, true, [], none, true, fun A => .rep E_impl_SetIndex A x3⟩ :: ⟨_, true, [], some (.box w0.heap.size 30 E_impl_SetIndex ((0 : Int), (([] : List T_impl_TokenCount), ([] : List T_impl_IndexedSet)))), true, fun A => .any⟩ :: ⟨_, true, [4], some (.box w0.heap.size 30 E_impl_SetIndex x3), false, fun A => .any⟩ :: []) (by kernel_rfl) (by kernel_rfl) (Wf.mk' (by kernel_rfl) (UAll.cons ust_rep (UAll.cons ust_rep (UAll.cons ust_any (UAll.cons ust_any (UAll.nil))))) (by kernel_rfl) (by kernel_rfl)) hO hA ?_ ?_
  · exact
      OblsR.cons (OblR.plain rfl rfl rfl rfl fun A' R' w' ho hd => by have a0 : R' 3 = (.pointer (some ⟨b3_0, 0, none⟩)) := (ho.old 3 rfl).trans h3; exact (of_load_box (ho.rd 0 _ rfl rfl) a0 (Fld.id _) rfl Try.isAgg30 Try.sizeOf30)) <|
      OblsR.cons (OblR.plain rfl rfl rfl rfl fun A' R' w' ho hd => by have a0 : Rep E_impl_SetIndex A' w' (R' 11) p0 := hd 0 _ _ _ rfl rfl rfl rfl rfl; exact of_call Try.call20 (M_spec_l12Copy_ok (q4 rfl) ho.av a0)) <|
      OblsR.cons (OblR.made _ rfl rfl rfl rfl fun A' R' w' ho hd => by exact made_alloc Try.zeroValue30 (fun A w => rep_pr rep1_int (rep_pr rep1_nil rep1_nil)) (Nat.le_trans hF.size ho.ch.size)) <|
      OblsR.cons (OblR.took 4 _ _ rfl rfl rfl rfl rfl fun A' R' w' ho hd u hok hav hin hop hds => by have a1 : Rep E_impl_SetIndex A' w' (R' 12) x3 := hd 1 _ _ _ rfl rfl rfl rfl rfl; obtain ⟨b, hb, hB', hbx⟩ := hok; have hop' := hop _ _ rfl rfl rfl rfl; exact took_store a1 (hop'.symm.trans hb) hb ⟨b, hb, hB', hbx⟩ hav (FldS.id _) Try.sizeOf30 rfl) <|
      OblsR.nil
  intro done ρ σ A R w hdn hI
  replace h1 : R 1 = .int .i64 p1 := (hI.reg rfl).trans h1
  replace h2 : R 2 = v2 := (hI.reg rfl).trans h2
  replace h3 : R 3 = (.pointer (some ⟨b3_0, 0, none⟩)) := (hI.reg rfl).trans h3
  replace h6 : R 6 = (.pointer (some ⟨b6_1, 0, none⟩)) := (hI.reg rfl).trans h6
  have z5 := hI.inivR 0 rfl
  have z6 := hI.inivR 1 rfl
  obtain ⟨b8_6, e_b8_6⟩ := hI.boxv hdn 5 rfl rfl
  have z8 := (hI.opnR hdn 5 3 rfl rfl rfl rfl rfl).symm.trans e_b8_6
  have h8 : R 8 = (.pointer (some ⟨b8_6, 0, none⟩)) := (hI.opvR hdn 4 2 rfl rfl rfl rfl rfl).symm.trans z8
  replace f_v2 := f_v2.stp hI.stp
  replace hAA := hI.low' hAA hA0 (hO.ge (⟨rfl, ⟨rfl, trivial⟩⟩))
  replace hF : Fr w0 w := hF.tr hI.ch (hO.ge (⟨rfl, ⟨rfl, trivial⟩⟩))
  replace hO : IniOK [ob (.pointer (some ⟨b3_0, 0, none⟩)) (.box w0.heap.size 30 E_impl_SetIndex p0), ob (.pointer (some ⟨b6_1, 0, none⟩)) (.box w0.heap.size 30 E_impl_SetIndex ((0 : Int), (([] : List T_impl_TokenCount), ([] : List T_impl_IndexedSet)))), ob (.pointer (some ⟨b8_6, 0, none⟩)) (.box w0.heap.size 30 E_impl_SetIndex x3)] A w := hI.left hdn [(0, ob (.pointer (some ⟨b3_0, 0, none⟩)) (.box w0.heap.size 30 E_impl_SetIndex p0)), (1, ob (.pointer (some ⟨b6_1, 0, none⟩)) (.box w0.heap.size 30 E_impl_SetIndex ((0 : Int), (([] : List T_impl_TokenCount), ([] : List T_impl_IndexedSet))))), (5, ob (.pointer (some ⟨b8_6, 0, none⟩)) (.box w0.heap.size 30 E_impl_SetIndex x3))] ⟨rfl, rfl, z5, rfl, rfl, ⟨rfl, rfl, z6, rfl, rfl, ⟨rfl, rfl, e_b8_6, rfl, rfl, trivial⟩⟩⟩
  replace hA := hI.avok
  clear hI
  refine HT.seq ?_
  refine HT.seq ?_
  obtain ⟨x9, q10, hr⟩ := cl_some hr
  obtain ⟨x11, q12, hr⟩ := cl_some hr
  obtain ⟨x13, q14, hr⟩ := bd_some hr
  obtain ⟨x15, q16, hr⟩ := cl_some hr
  obtain ⟨x17, q18, hr⟩ := bd_some hr
  obtain ⟨x19, q20, hr⟩ := cl_some hr
  obtain ⟨x21, q22, hr⟩ := bd_some hr
  obtain ⟨x23, q24, hr⟩ := bd_some hr
  refine HT.text (l := ⟨_, true, .rep E_impl_SetIndex A p0⟩ :: ⟨_, true, .raw (.bool x9)⟩ :: ⟨_, true, .raw (.bool (!x9))⟩ :: ⟨_, true, .raw (.bool (!x9))⟩ :: ⟨_, (true && ((!x9) == false)), .raw v2⟩ :: ⟨_, (true && ((!x9) == false)), .raw (.bool x11)⟩ :: ⟨_, (true && ((!x9) == false)), .raw (.bool (!x11))⟩ :: ⟨_, true, .raw (.bool x13)⟩ :: ⟨_, true, .raw (.bool x13)⟩ :: ⟨_, (true && (x13 == false)), .raw (.int .i64 p1)⟩ :: ⟨_, (true && (x13 == false)), .raw (.bool x15)⟩ :: ⟨_, (true && (x13 == false)), .raw (.bool (!x15))⟩ :: ⟨_, true, .raw (.bool x17)⟩ :: ⟨_, true, .raw (.bool x17)⟩ :: ⟨_, (true && (x17 == false)), .rep E_impl_SetIndex A p0⟩ :: ⟨_, (true && (x17 == false)), .raw (.int .i64 p1)⟩ :: ⟨_, (true && (x17 == false)), .raw (.int .i64 x19)⟩ :: ⟨_, (true && (x17 == false)), .raw (.bool (decide ((0 : Int) ≤ x19)))⟩ :: ⟨_, true, .raw (.bool x21)⟩ :: ⟨_, true, .raw (.bool x21)⟩ :: ⟨_, (true && (x21 == false)), .raw (.pointer (some ⟨b3_0, 2, none⟩))⟩ :: ⟨_, (true && (x21 == false)), .rep (eSl E_impl_IndexedSet) A p0.2.2⟩ :: ⟨_, (true && (x21 == false)), .raw (.int .i64 (p0.2.2.length : Int))⟩ :: ⟨_, (true && (x21 == false)), .raw (.bool ((p0.2.2.length : Int) == (12 : Int)))⟩ :: ⟨_, true, .raw (.bool x23)⟩ :: []) (tl := []) (by kernel_rfl) (by kernel_rfl) (by kernel_rfl) ?_ ?_
  · exact
      Obls.cons (Obl.plain rfl rfl fun R' w' hw hs hd => by have a0 : R' 3 = (.pointer (some ⟨b3_0, 0, none⟩)) := (hs 3 rfl).trans h3; exact (of_load_box ((hO.fr hw).ok 0 _ rfl).1 a0 (Fld.id _) rfl Try.isAgg30 Try.sizeOf30)) <|
      Obls.cons (Obl.plain rfl rfl fun R' w' hw hs hd => by have a0 : Rep E_impl_SetIndex A w' (R' 13) p0 := hd 0 _ _ _ rfl rfl rfl rfl rfl; exact of_call Try.call22 (M_spec_IsValidSetIndex_ok (q10 rfl) (hA.fr hw.size) a0)) <|
      Obls.cons (Obl.plain rfl rfl fun R' w' hw hs hd => by have a0 : R' 14 = .bool x9 := hd 0 _ _ _ rfl rfl rfl rfl rfl; exact of_not a0) <|
      Obls.cons (Obl.plain rfl rfl fun R' w' hw hs hd => by have a0 : R' 15 = .bool (!x9) := hd 0 _ _ _ rfl rfl rfl rfl rfl; exact of_move a0) <|
      Obls.cons (Obl.grd 3 false _ _ _ rfl rfl rfl rfl rfl (by kernel_rfl) fun hg R' w' hw hs hd => by have a0 : R' 2 = v2 := (hs 2 rfl).trans h2; exact of_move a0) <|
      Obls.cons (Obl.grd 3 false _ _ _ rfl rfl rfl rfl rfl (by kernel_rfl) fun hg R' w' hw hs hd => by have a0 : R' 17 = v2 := hd 0 _ _ _ rfl rfl rfl rfl hg; have ra0 := (f_v2.fr hw).eq a0; exact of_call Try.call36 (M_spec_IsTokenSet_ok (q12 hg) (hA.fr hw.size) ra0)) <|
      Obls.cons (Obl.grd 3 false _ _ _ rfl rfl rfl rfl rfl (by kernel_rfl) fun hg R' w' hw hs hd => by have a0 : R' 18 = .bool x11 := hd 0 _ _ _ rfl rfl rfl rfl hg; exact of_not a0) <|
      Obls.cons (Obl.plain rfl rfl fun R' w' hw hs hd => by have a0 : R' 16 = .bool (!x9) := hd 0 _ _ _ rfl rfl rfl rfl rfl; exact of_pick (!x9) a0 (fun hc => by show _ = Value.bool x13; rw [q14, hc]; exact rfl) (fun hc => by have a2 : R' 19 = .bool (!x11) := hd 1 _ _ _ rfl rfl rfl rfl (g_and rfl (beq_of hc)); show _ = Value.bool x13; rw [q14, hc]; exact a2)) <|
      Obls.cons (Obl.plain rfl rfl fun R' w' hw hs hd => by have a0 : R' 20 = .bool x13 := hd 0 _ _ _ rfl rfl rfl rfl rfl; exact of_move a0) <|
      Obls.cons (Obl.grd 8 false _ _ _ rfl rfl rfl rfl rfl (by kernel_rfl) fun hg R' w' hw hs hd => by have a0 : R' 1 = .int .i64 p1 := (hs 1 rfl).trans h1; exact of_move a0) <|
      Obls.cons (Obl.grd 8 false _ _ _ rfl rfl rfl rfl rfl (by kernel_rfl) fun hg R' w' hw hs hd => by have a0 : R' 22 = .int .i64 p1 := hd 0 _ _ _ rfl rfl rfl rfl hg; exact of_call Try.call37 (M_spec_l1In_ok (q16 hg) (hA.fr hw.size) a0 rfl rfl)) <|
      Obls.cons (Obl.grd 8 false _ _ _ rfl rfl rfl rfl rfl (by kernel_rfl) fun hg R' w' hw hs hd => by have a0 : R' 23 = .bool x15 := hd 0 _ _ _ rfl rfl rfl rfl hg; exact of_not a0) <|
      Obls.cons (Obl.plain rfl rfl fun R' w' hw hs hd => by have a0 : R' 21 = .bool x13 := hd 0 _ _ _ rfl rfl rfl rfl rfl; exact of_pick x13 a0 (fun hc => by show _ = Value.bool x17; rw [q18, hc]; exact rfl) (fun hc => by have a2 : R' 24 = .bool (!x15) := hd 1 _ _ _ rfl rfl rfl rfl (g_and rfl (beq_of hc)); show _ = Value.bool x17; rw [q18, hc]; exact a2)) <|
      Obls.cons (Obl.plain rfl rfl fun R' w' hw hs hd => by have a0 : R' 25 = .bool x17 := hd 0 _ _ _ rfl rfl rfl rfl rfl; exact of_move a0) <|
      Obls.cons (Obl.grd 13 false _ _ _ rfl rfl rfl rfl rfl (by kernel_rfl) fun hg R' w' hw hs hd => by have a0 : R' 3 = (.pointer (some ⟨b3_0, 0, none⟩)) := (hs 3 rfl).trans h3; exact (of_load_box ((hO.fr hw).ok 0 _ rfl).1 a0 (Fld.id _) rfl Try.isAgg30 Try.sizeOf30)) <|
      Obls.cons (Obl.grd 13 false _ _ _ rfl rfl rfl rfl rfl (by kernel_rfl) fun hg R' w' hw hs hd => by have a0 : R' 1 = .int .i64 p1 := (hs 1 rfl).trans h1; exact of_move a0) <|
      Obls.cons (Obl.grd 13 false _ _ _ rfl rfl rfl rfl rfl (by kernel_rfl) fun hg R' w' hw hs hd => by have a0 : Rep E_impl_SetIndex A w' (R' 27) p0 := hd 0 _ _ _ rfl rfl rfl rfl hg; have a1 : R' 28 = .int .i64 p1 := hd 1 _ _ _ rfl rfl rfl rfl hg; exact of_call Try.call21 (M_spec_l12Find_ok (q20 hg) (hA.fr hw.size) a0 a1)) <|
      Obls.cons (Obl.grd 13 false _ _ _ rfl rfl rfl rfl rfl (by kernel_rfl) fun hg R' w' hw hs hd => by have a0 : R' 29 = .int .i64 x19 := hd 0 _ _ _ rfl rfl rfl rfl hg; exact of_geq a0 rfl) <|
      Obls.cons (Obl.plain rfl rfl fun R' w' hw hs hd => by have a0 : R' 26 = .bool x17 := hd 0 _ _ _ rfl rfl rfl rfl rfl; exact of_pick x17 a0 (fun hc => by show _ = Value.bool x21; rw [q22, hc]; exact rfl) (fun hc => by have a2 : R' 30 = .bool (decide ((0 : Int) ≤ x19)) := hd 1 _ _ _ rfl rfl rfl rfl (g_and rfl (beq_of hc)); show _ = Value.bool x21; rw [q22, hc]; exact a2)) <|
      Obls.cons (Obl.plain rfl rfl fun R' w' hw hs hd => by have a0 : R' 31 = .bool x21 := hd 0 _ _ _ rfl rfl rfl rfl rfl; exact of_move a0) <|
      Obls.cons (Obl.grd 19 false _ _ _ rfl rfl rfl rfl rfl (by kernel_rfl) fun hg R' w' hw hs hd => by have a0 : R' 3 = (.pointer (some ⟨b3_0, 0, none⟩)) := (hs 3 rfl).trans h3; exact of_fieldAddr_raw a0 ff_30_2 Try.sizeOf28 (by decide) rfl) <|
      Obls.cons (Obl.grd 19 false _ _ _ rfl rfl rfl rfl rfl (by kernel_rfl) fun hg R' w' hw hs hd => by have a0 : R' 33 = (.pointer (some ⟨b3_0, 2, none⟩)) := hd 0 _ _ _ rfl rfl rfl rfl hg; exact (of_load_box ((hO.fr hw).ok 0 _ rfl).1 a0 fl_impl_SetIndex_2 rfl Try.isAgg28 Try.sizeOf28)) <|
      Obls.cons (Obl.grd 19 false _ _ _ rfl rfl rfl rfl rfl (by kernel_rfl) fun hg R' w' hw hs hd => by have a0 : Rep (eSl E_impl_IndexedSet) A w' (R' 34) p0.2.2 := hd 0 _ _ _ rfl rfl rfl rfl hg; exact of_len_sl (aT := #[]) a0 Try.underlying28) <|
      Obls.cons (Obl.grd 19 false _ _ _ rfl rfl rfl rfl rfl (by kernel_rfl) fun hg R' w' hw hs hd => by have a0 : R' 35 = .int .i64 (p0.2.2.length : Int) := hd 0 _ _ _ rfl rfl rfl rfl hg; exact of_eql a0 rfl) <|
      Obls.cons (Obl.plain rfl rfl fun R' w' hw hs hd => by have a0 : R' 32 = .bool x21 := hd 0 _ _ _ rfl rfl rfl rfl rfl; exact of_pick x21 a0 (fun hc => by show _ = Value.bool x23; rw [q24, hc]; exact rfl) (fun hc => by have a2 : R' 36 = .bool ((p0.2.2.length : Int) == (12 : Int)) := hd 1 _ _ _ rfl rfl rfl rfl (g_and rfl (beq_of hc)); show _ = Value.bool x23; rw [q24, hc]; exact a2)) <|
      Obls.nil
  intro R w hw hs hF'
  replace h1 : R 1 = .int .i64 p1 := (hs 1 rfl).trans h1
  replace h2 : R 2 = v2 := (hs 2 rfl).trans h2
  replace h6 : R 6 = (.pointer (some ⟨b6_1, 0, none⟩)) := (hs 6 rfl).trans h6
  replace h8 : R 8 = (.pointer (some ⟨b8_6, 0, none⟩)) := (hs 8 rfl).trans h8
  have h37 : R 37 = .bool x23 := hF' 24 _ _ rfl rfl rfl
  replace f_v2 := f_v2.fr hw
  replace hO := hO.fr hw
  replace hO : IniOK [ob (.pointer (some ⟨b6_1, 0, none⟩)) (.box w0.heap.size 30 E_impl_SetIndex ((0 : Int), (([] : List T_impl_TokenCount), ([] : List T_impl_IndexedSet)))), ob (.pointer (some ⟨b8_6, 0, none⟩)) (.box w0.heap.size 30 E_impl_SetIndex x3)] A w := hO.sub [(1, ob (.pointer (some ⟨b6_1, 0, none⟩)) (.box w0.heap.size 30 E_impl_SetIndex ((0 : Int), (([] : List T_impl_TokenCount), ([] : List T_impl_IndexedSet))))), (2, ob (.pointer (some ⟨b8_6, 0, none⟩)) (.box w0.heap.size 30 E_impl_SetIndex x3))] ⟨rfl, rfl, ⟨rfl, rfl, trivial⟩⟩
  replace hA := hA.fr hw.size
  replace hF := hF.trans hw
  clear hs hF' hw
  refine seqR_nil ?_
  refine HT.cond x23 h37 (fun c25 => ?_) (fun c25 => ?_)
  · have hr := cnd_t c25 hr
    refine HT.seq ?_
    refine HT.textR [ob (.pointer (some ⟨b6_1, 0, none⟩)) (.box w0.heap.size 30 E_impl_SetIndex ((0 : Int), (([] : List T_impl_TokenCount), ([] : List T_impl_IndexedSet)))), ob (.pointer (some ⟨b8_6, 0, none⟩)) (.box w0.heap.size 30 E_impl_SetIndex x3)] (⟨_, true, [], none, true, fun A => .rep E_impl_SetIndex A x3⟩ :: ⟨_, true, [0], some (.box w0.heap.size 30 E_impl_SetIndex x3), false, fun A => .any⟩ :: ⟨_, true, [], none, true, fun A => .raw (.bool false)⟩ :: []) (by kernel_rfl) (by kernel_rfl) (Wf.mk' (by kernel_rfl) (UAll.cons ust_rep (UAll.cons ust_any (UAll.cons ust_raw (UAll.nil)))) (by kernel_rfl) (by kernel_rfl)) hO hA ?_ ?_
    · exact
        OblsR.cons (OblR.plain rfl rfl rfl rfl fun A' R' w' ho hd => by have a0 : R' 8 = (.pointer (some ⟨b8_6, 0, none⟩)) := (ho.old 8 rfl).trans h8; exact (of_load_box (ho.rd 1 _ rfl rfl) a0 (Fld.id _) rfl Try.isAgg30 Try.sizeOf30)) <|
        OblsR.cons (OblR.took 0 _ _ rfl rfl rfl rfl rfl fun A' R' w' ho hd u hok hav hin hop hds => by have a0 : R' 6 = (.pointer (some ⟨b6_1, 0, none⟩)) := (ho.old 6 rfl).trans h6; have a1 : Rep E_impl_SetIndex A' w' (R' 38) x3 := hd 0 _ _ _ rfl rfl rfl rfl rfl; exact took_store a1 a0 (hin _ rfl) hok hav (FldS.id _) Try.sizeOf30 rfl) <|
        OblsR.cons (OblR.plain rfl rfl rfl rfl fun A' R' w' ho hd => by exact of_assign rfl) <|
        OblsR.nil
    intro done ρ σ A R w hdn hI
    replace h6 : R 6 = (.pointer (some ⟨b6_1, 0, none⟩)) := (hI.reg rfl).trans h6
    have z26 := hI.inivR 0 rfl
    have z27 := (hI.opnR hdn 3 1 rfl rfl rfl rfl rfl).trans z26
    have z28 := hI.inivR 1 rfl
    have h7 : R 7 = .bool false := hI.fact hdn (i := 2) rfl rfl rfl
    replace hAA := hI.low' hAA hA0 (hO.ge (⟨rfl, ⟨rfl, trivial⟩⟩))
    replace hF : Fr w0 w := hF.tr hI.ch (hO.ge (⟨rfl, ⟨rfl, trivial⟩⟩))
    replace hO : IniOK [ob (.pointer (some ⟨b6_1, 0, none⟩)) (.box w0.heap.size 30 E_impl_SetIndex x3)] A w := hI.left hdn [(3, ob (.pointer (some ⟨b6_1, 0, none⟩)) (.box w0.heap.size 30 E_impl_SetIndex x3))] ⟨rfl, rfl, z27, rfl, rfl, trivial⟩
    replace hA := hI.avok
    clear hI
    refine HT.ret ?_
    obtain rfl := Option.some.inj hr
    obtain ⟨v_6, e_6, p_6⟩ := res_cell (hO.ok 0 _ rfl).1 h6 Try.isAgg30 Try.sizeOf30 hAA
    exact ⟨.inr rfl, [v_6, R 7], ⟨e_6, ⟨rfl, trivial⟩⟩, ⟨_, _, rfl, p_6, h7⟩, hF⟩
  · have hr := cnd_f c25 hr
    refine HT.skip ?_
    refine HT.seq ?_
    refine HT.text (l := ⟨_, true, .raw (.int .i64 (0 : Int))⟩ :: []) (tl := []) (by kernel_rfl) (by kernel_rfl) (by kernel_rfl) ?_ ?_
    · exact
        Obls.cons (Obl.plain rfl rfl fun R' w' hw hs hd => by exact of_assign rfl) <|
        Obls.nil
    intro R w hw hs hF'
    replace h1 : R 1 = .int .i64 p1 := (hs 1 rfl).trans h1
    replace h2 : R 2 = v2 := (hs 2 rfl).trans h2
    replace h6 : R 6 = (.pointer (some ⟨b6_1, 0, none⟩)) := (hs 6 rfl).trans h6
    replace h8 : R 8 = (.pointer (some ⟨b8_6, 0, none⟩)) := (hs 8 rfl).trans h8
    have h9 : R 9 = .int .i64 (0 : Int) := hF' 0 _ _ rfl rfl rfl
    replace f_v2 := f_v2.fr hw
    replace hO := hO.fr hw
    replace hA := hA.fr hw.size
    replace hF := hF.trans hw
    clear hs hF' hw
    refine seqR_nil ?_
    obtain ⟨rl29, q30, hr⟩ := cl_some hr
    replace q30 := q30 rfl
    refine HT.cut (fun R w => ∃ A : Av, ∃ (s31 : Int), rl29 = s31 ∧ AvOK A w ∧ Fr w0 w ∧ (∀ b o, A0 b o → A b o) ∧ IniOK [ob (.pointer (some ⟨b6_1, 0, none⟩)) (.box w0.heap.size 30 E_impl_SetIndex ((0 : Int), (([] : List T_impl_TokenCount), ([] : List T_impl_IndexedSet)))), ob (.pointer (some ⟨b8_6, 0, none⟩)) (.box w0.heap.size 30 E_impl_SetIndex x3)] A w ∧ R 1 = .int .i64 p1 ∧ R 2 = v2 ∧ R 6 = (.pointer (some ⟨b6_1, 0, none⟩)) ∧ R 8 = (.pointer (some ⟨b8_6, 0, none⟩)) ∧ R 9 = .int .i64 s31 ∧ Rep (eSl eStr) A w v2 p2) ?_ ?_
    · refine HT.block ?_
      refine HT.loop (fun k R w => ∃ A : Av, ∃ (y32 : Int), M_spec_InsertSet_L0 fu p1 x3 k y32 = some rl29 ∧ AvOK A w ∧ Fr w0 w ∧ (∀ b o, A0 b o → A b o) ∧ IniOK [ob (.pointer (some ⟨b6_1, 0, none⟩)) (.box w0.heap.size 30 E_impl_SetIndex ((0 : Int), (([] : List T_impl_TokenCount), ([] : List T_impl_IndexedSet)))), ob (.pointer (some ⟨b8_6, 0, none⟩)) (.box w0.heap.size 30 E_impl_SetIndex x3)] A w ∧ R 1 = .int .i64 p1 ∧ R 2 = v2 ∧ R 6 = (.pointer (some ⟨b6_1, 0, none⟩)) ∧ R 8 = (.pointer (some ⟨b8_6, 0, none⟩)) ∧ R 9 = .int .i64 y32 ∧ Rep (eSl eStr) A w v2 p2) fu ⟨_, _, q30, hA, hF, hAA, hO, h1, h2, h6, h8, h9, f_v2⟩ ?_
      have hr0 := hr; clear hr q30
      rintro k R w ⟨A, y32, hr, hA, hF, hAA, hO, h1, h2, h6, h8, h9, f_v2⟩
      rcases k with _ | k
      · cases (show none = some _ from hr)
      rw [M_spec_InsertSet_L0] at hr
      refine HT.seq ?_
      refine HT.seq ?_
      obtain ⟨e33, hr⟩ := ck_some hr
      obtain ⟨x34, q35, hr⟩ := bd_some hr
      refine HT.text (l := ⟨_, true, .raw (.int .i64 y32)⟩ :: ⟨_, true, .raw (.pointer (some ⟨b8_6, 2, none⟩))⟩ :: ⟨_, true, .rep (eSl E_impl_IndexedSet) A x3.2.2⟩ :: ⟨_, true, .raw (.int .i64 (x3.2.2.length : Int))⟩ :: ⟨_, true, .raw (.bool (decide (y32 < (x3.2.2.length : Int))))⟩ :: ⟨_, true, .raw (.bool (decide (y32 < (x3.2.2.length : Int))))⟩ :: ⟨_, (true && ((decide (y32 < (x3.2.2.length : Int))) == true)), .raw (.pointer (some ⟨b8_6, 2, none⟩))⟩ :: ⟨_, (true && ((decide (y32 < (x3.2.2.length : Int))) == true)), .rep (eSl E_impl_IndexedSet) A x3.2.2⟩ :: ⟨_, (true && ((decide (y32 < (x3.2.2.length : Int))) == true)), .raw (.int .i64 y32)⟩ :: ⟨_, (true && ((decide (y32 < (x3.2.2.length : Int))) == true)), .qtr E_impl_IndexedSet A (gtD x3.2.2 y32)⟩ :: ⟨_, (true && ((decide (y32 < (x3.2.2.length : Int))) == true)), .qtr (eInt .i64) A ((gtD x3.2.2 y32).1)⟩ :: ⟨_, (true && ((decide (y32 < (x3.2.2.length : Int))) == true)), .raw (.int .i64 ((gtD x3.2.2 y32).1))⟩ :: ⟨_, (true && ((decide (y32 < (x3.2.2.length : Int))) == true)), .raw (.int .i64 p1)⟩ :: ⟨_, (true && ((decide (y32 < (x3.2.2.length : Int))) == true)), .raw (.bool (decide (((gtD x3.2.2 y32).1) < p1)))⟩ :: ⟨_, true, .raw (.bool x34)⟩ :: []) (tl := []) (by kernel_rfl) (by kernel_rfl) (by kernel_rfl) ?_ ?_
      · exact
          Obls.cons (Obl.plain rfl rfl fun R' w' hw hs hd => by have a0 : R' 9 = .int .i64 y32 := (hs 9 rfl).trans h9; exact of_move a0) <|
          Obls.cons (Obl.plain rfl rfl fun R' w' hw hs hd => by have a0 : R' 8 = (.pointer (some ⟨b8_6, 0, none⟩)) := (hs 8 rfl).trans h8; exact of_fieldAddr_raw a0 ff_30_2 Try.sizeOf28 (by decide) rfl) <|
          Obls.cons (Obl.plain rfl rfl fun R' w' hw hs hd => by have a0 : R' 40 = (.pointer (some ⟨b8_6, 2, none⟩)) := hd 0 _ _ _ rfl rfl rfl rfl rfl; exact (of_load_box ((hO.fr hw).ok 1 _ rfl).1 a0 fl_impl_SetIndex_2 rfl Try.isAgg28 Try.sizeOf28)) <|
          Obls.cons (Obl.plain rfl rfl fun R' w' hw hs hd => by have a0 : Rep (eSl E_impl_IndexedSet) A w' (R' 41) x3.2.2 := hd 0 _ _ _ rfl rfl rfl rfl rfl; exact of_len_sl (aT := #[]) a0 Try.underlying28) <|
          Obls.cons (Obl.plain rfl rfl fun R' w' hw hs hd => by have a0 : R' 39 = .int .i64 y32 := hd 0 _ _ _ rfl rfl rfl rfl rfl; have a1 : R' 42 = .int .i64 (x3.2.2.length : Int) := hd 1 _ _ _ rfl rfl rfl rfl rfl; exact of_lss a0 a1) <|
          Obls.cons (Obl.plain rfl rfl fun R' w' hw hs hd => by have a0 : R' 43 = .bool (decide (y32 < (x3.2.2.length : Int))) := hd 0 _ _ _ rfl rfl rfl rfl rfl; exact of_move a0) <|
          Obls.cons (Obl.grd 5 true _ _ _ rfl rfl rfl rfl rfl (by kernel_rfl) fun hg R' w' hw hs hd => by have a0 : R' 8 = (.pointer (some ⟨b8_6, 0, none⟩)) := (hs 8 rfl).trans h8; exact of_fieldAddr_raw a0 ff_30_2 Try.sizeOf28 (by decide) rfl) <|
          Obls.cons (Obl.grd 5 true _ _ _ rfl rfl rfl rfl rfl (by kernel_rfl) fun hg R' w' hw hs hd => by have a0 : R' 45 = (.pointer (some ⟨b8_6, 2, none⟩)) := hd 0 _ _ _ rfl rfl rfl rfl hg; exact (of_load_box ((hO.fr hw).ok 1 _ rfl).1 a0 fl_impl_SetIndex_2 rfl Try.isAgg28 Try.sizeOf28)) <|
          Obls.cons (Obl.grd 5 true _ _ _ rfl rfl rfl rfl rfl (by kernel_rfl) fun hg R' w' hw hs hd => by have a0 : R' 9 = .int .i64 y32 := (hs 9 rfl).trans h9; exact of_move a0) <|
          Obls.cons (Obl.grd 5 true _ _ _ rfl rfl rfl rfl rfl (by kernel_rfl) fun hg R' w' hw hs hd => by have a0 : Rep (eSl E_impl_IndexedSet) A w' (R' 46) x3.2.2 := hd 0 _ _ _ rfl rfl rfl rfl hg; have a1 : R' 47 = .int .i64 y32 := hd 1 _ _ _ rfl rfl rfl rfl hg; exact of_indexAddr a0 a1 Try.underlying28 Try.sizeOf55 (gd e33 hg)) <|
          Obls.cons (Obl.grd 5 true _ _ _ rfl rfl rfl rfl rfl (by kernel_rfl) fun hg R' w' hw hs hd => by have a0 : QRep E_impl_IndexedSet A w' (R' 48) (gtD x3.2.2 y32) := hd 0 _ _ _ rfl rfl rfl rfl hg; exact of_fieldAddr_q a0 ff_55_0 Try.sizeOf3 (by decide) fl_impl_IndexedSet_0 rfl) <|
          Obls.cons (Obl.grd 5 true _ _ _ rfl rfl rfl rfl rfl (by kernel_rfl) fun hg R' w' hw hs hd => by have a0 : QRep (eInt .i64) A w' (R' 49) ((gtD x3.2.2 y32).1) := hd 0 _ _ _ rfl rfl rfl rfl hg; exact OpF.int (of_load a0.ptr Try.isAgg3 Try.sizeOf3)) <|
          Obls.cons (Obl.grd 5 true _ _ _ rfl rfl rfl rfl rfl (by kernel_rfl) fun hg R' w' hw hs hd => by have a0 : R' 1 = .int .i64 p1 := (hs 1 rfl).trans h1; exact of_move a0) <|
          Obls.cons (Obl.grd 5 true _ _ _ rfl rfl rfl rfl rfl (by kernel_rfl) fun hg R' w' hw hs hd => by have a0 : R' 50 = .int .i64 ((gtD x3.2.2 y32).1) := hd 0 _ _ _ rfl rfl rfl rfl hg; have a1 : R' 51 = .int .i64 p1 := hd 1 _ _ _ rfl rfl rfl rfl hg; exact of_lss a0 a1) <|
          Obls.cons (Obl.plain rfl rfl fun R' w' hw hs hd => by have a0 : R' 44 = .bool (decide (y32 < (x3.2.2.length : Int))) := hd 0 _ _ _ rfl rfl rfl rfl rfl; exact of_pick (decide (y32 < (x3.2.2.length : Int))) a0 (fun hc => by have a1 : R' 52 = .bool (decide (((gtD x3.2.2 y32).1) < p1)) := hd 1 _ _ _ rfl rfl rfl rfl (g_and rfl (beq_of hc)); show _ = Value.bool x34; rw [q35, hc]; exact a1) (fun hc => by show _ = Value.bool x34; rw [q35, hc]; exact rfl)) <|
          Obls.nil
      intro R w hw hs hF'
      replace h1 : R 1 = .int .i64 p1 := (hs 1 rfl).trans h1
      replace h2 : R 2 = v2 := (hs 2 rfl).trans h2
      replace h6 : R 6 = (.pointer (some ⟨b6_1, 0, none⟩)) := (hs 6 rfl).trans h6
      replace h8 : R 8 = (.pointer (some ⟨b8_6, 0, none⟩)) := (hs 8 rfl).trans h8
      replace h9 : R 9 = .int .i64 y32 := (hs 9 rfl).trans h9
      have h53 : R 53 = .bool x34 := hF' 14 _ _ rfl rfl rfl
      replace f_v2 := f_v2.fr hw
      replace hO := hO.fr hw
      replace hA := hA.fr hw.size
      replace hF := hF.trans hw
      clear hs hF' hw
      refine seqR_nil ?_
      refine HT.cond x34 h53 (fun c36 => ?_) (fun c36 => ?_)
      · have hr := cnd_t c36 hr
        refine HT.skip ?_
        refine HT.block ?_
        obtain ⟨e37, hr⟩ := ck_some hr
        refine HT.text (l := ⟨_, true, .raw (.int .i64 y32)⟩ :: ⟨_, true, .raw (.int .i64 (y32 + (1 : Int)))⟩ :: ⟨_, true, .raw (.int .i64 (y32 + (1 : Int)))⟩ :: []) (tl := []) (by kernel_rfl) (by kernel_rfl) (by kernel_rfl) ?_ ?_
        · exact
            Obls.cons (Obl.plain rfl rfl fun R' w' hw hs hd => by have a0 : R' 9 = .int .i64 y32 := (hs 9 rfl).trans h9; exact of_move a0) <|
            Obls.cons (Obl.plain rfl rfl fun R' w' hw hs hd => by have a0 : R' 54 = .int .i64 y32 := hd 0 _ _ _ rfl rfl rfl rfl rfl; exact of_add a0 rfl e37) <|
            Obls.cons (Obl.plain rfl rfl fun R' w' hw hs hd => by have a0 : R' 55 = .int .i64 (y32 + (1 : Int)) := hd 0 _ _ _ rfl rfl rfl rfl rfl; exact of_assign a0) <|
            Obls.nil
        intro R w hw hs hF'
        replace h1 : R 1 = .int .i64 p1 := (hs 1 rfl).trans h1
        replace h2 : R 2 = v2 := (hs 2 rfl).trans h2
        replace h6 : R 6 = (.pointer (some ⟨b6_1, 0, none⟩)) := (hs 6 rfl).trans h6
        replace h8 : R 8 = (.pointer (some ⟨b8_6, 0, none⟩)) := (hs 8 rfl).trans h8
        have h9 : R 9 = .int .i64 (y32 + (1 : Int)) := hF' 2 _ _ rfl rfl rfl
        replace f_v2 := f_v2.fr hw
        replace hO := hO.fr hw
        replace hA := hA.fr hw.size
        replace hF := hF.trans hw
        clear hs hF' hw
        refine seqR_nil ?_
        exact Exists.intro k (And.intro (Nat.lt_succ_self k) ⟨_, _, hr, hA, hF, hAA, hO, h1, h2, h6, h8, h9, f_v2⟩)
      · have hr := cnd_f c36 hr
        refine HT.exit ?_
        obtain rfl := Option.some.inj hr
        exact Exists.intro _ ⟨_, rfl, hA, hF, hAA, hO, h1, h2, h6, h8, h9, f_v2⟩
    rintro R w ⟨A, s31, es, hA, hF, hAA, hO, h1, h2, h6, h8, h9, f_v2⟩
    obtain rfl := es.symm
    refine HT.seq ?_
    obtain ⟨e38, hr⟩ := ck_some hr
    refine HT.textR [ob (.pointer (some ⟨b6_1, 0, none⟩)) (.box w0.heap.size 30 E_impl_SetIndex ((0 : Int), (([] : List T_impl_TokenCount), ([] : List T_impl_IndexedSet)))), ob (.pointer (some ⟨b8_6, 0, none⟩)) (.box w0.heap.size 30 E_impl_SetIndex x3)] (⟨_, true, [], none, true, fun A => .raw (.int .i64 p1)⟩ :: ⟨_, true, [], some (.vec w0.heap.size 9 eStr ([] : List (List UInt8))), true, fun A => .any⟩ :: ⟨_, true, [], none, true, fun A => .raw v2⟩ :: ⟨_, true, [3], some (.nul), false, fun A => .rep (eSl eStr) A (([] : List (List UInt8)) ++ p2)⟩ :: ⟨_, true, [], none, true, fun A => .rep E_impl_IndexedSet A (p1, (([] : List (List UInt8)) ++ p2))⟩ :: ⟨_, true, [], some (.box w0.heap.size 55 E_impl_IndexedSet ((0 : Int), ([] : List (List UInt8)))), true, fun A => .any⟩ :: ⟨_, true, [7], some (.box w0.heap.size 55 E_impl_IndexedSet (p1, (([] : List (List UInt8)) ++ p2))), false, fun A => .any⟩ :: []) (by kernel_rfl) (by kernel_rfl) (Wf.mk' (by kernel_rfl) (UAll.cons ust_raw (UAll.cons ust_any (UAll.cons ust_raw (UAll.cons ust_rep (UAll.cons ust_rep (UAll.cons ust_any (UAll.cons ust_any (UAll.nil)))))))) (by kernel_rfl) (by kernel_rfl)) hO hA ?_ ?_
    · exact
        OblsR.cons (OblR.plain rfl rfl rfl rfl fun A' R' w' ho hd => by have a0 : R' 1 = .int .i64 p1 := (ho.old 1 rfl).trans h1; exact of_move a0) <|
        OblsR.cons (OblR.made _ rfl rfl rfl rfl fun A' R' w' ho hd => by exact made_build [] (E := eStr) trivial Try.underlying37 Try.sizeOf9 Try.zeroValue9 rfl rfl rfl (Nat.le_trans hF.size ho.ch.size)) <|
        OblsR.cons (OblR.plain rfl rfl rfl rfl fun A' R' w' ho hd => by have a0 : R' 2 = v2 := (ho.old 2 rfl).trans h2; exact of_move a0) <|
        OblsR.cons (OblR.frz 3 _ rfl rfl rfl rfl rfl fun A' R' w' ho hd u hok hav hin hop hds => by have a1 : R' 58 = v2 := hd 1 _ _ _ rfl rfl rfl rfl rfl; have ra1 := (f_v2.stp ho.stp).eq a1; exact OpR.thaw (took_append (hop _ _ rfl rfl rfl rfl).symm hok hav (Nat.le_trans hF.size ho.ch.size) ra1 Try.underlying37 el_9 e38) ho.av hav) <|
        OblsR.cons (OblR.plain rfl rfl rfl rfl fun A' R' w' ho hd => by have a0 : R' 56 = .int .i64 p1 := hd 0 _ _ _ rfl rfl rfl rfl rfl; have a1 : Rep (eSl eStr) A' w' (R' 59) (([] : List (List UInt8)) ++ p2) := hd 1 _ _ _ rfl rfl rfl rfl rfl; obtain ⟨c39a, c39n, c39c, c39, c39r⟩ := rep_sl_val a1; exact of_build_raw (v := .agg #[.int .i64 p1, .slice c39a c39n c39c]) (by simp [execOp, Instr.build, evalR, a0, c39, underlying, Try.underlying55, Try.zeroValue55, Try.sizeOf3, Try.sizeOf37, go_sem, Instr.fill]) ⟨_, rfl, rep_pr rep1_int c39r⟩) <|
        OblsR.cons (OblR.made _ rfl rfl rfl rfl fun A' R' w' ho hd => by exact made_alloc Try.zeroValue55 (fun A w => rep_pr rep1_int rep1_nil) (Nat.le_trans hF.size ho.ch.size)) <|
        OblsR.cons (OblR.took 7 _ _ rfl rfl rfl rfl rfl fun A' R' w' ho hd u hok hav hin hop hds => by have a1 : Rep E_impl_IndexedSet A' w' (R' 60) (p1, (([] : List (List UInt8)) ++ p2)) := hd 1 _ _ _ rfl rfl rfl rfl rfl; obtain ⟨b, hb, hB', hbx⟩ := hok; have hop' := hop _ _ rfl rfl rfl rfl; exact took_store a1 (hop'.symm.trans hb) hb ⟨b, hb, hB', hbx⟩ hav (FldS.id _) Try.sizeOf55 rfl) <|
        OblsR.nil
    intro done ρ σ A R w hdn hI
    replace h6 : R 6 = (.pointer (some ⟨b6_1, 0, none⟩)) := (hI.reg rfl).trans h6
    replace h8 : R 8 = (.pointer (some ⟨b8_6, 0, none⟩)) := (hI.reg rfl).trans h8
    replace h9 : R 9 = .int .i64 s31 := (hI.reg rfl).trans h9
    have z40 := hI.inivR 0 rfl
    have z41 := hI.inivR 1 rfl
    obtain ⟨b10_41, e_b10_41⟩ := hI.boxv hdn 8 rfl rfl
    have z43 := (hI.opnR hdn 8 6 rfl rfl rfl rfl rfl).symm.trans e_b10_41
    have h10 : R 10 = (.pointer (some ⟨b10_41, 0, none⟩)) := (hI.opvR hdn 7 5 rfl rfl rfl rfl rfl).symm.trans z43
    replace hAA := hI.low' hAA hA0 (hO.ge (⟨rfl, ⟨rfl, trivial⟩⟩))
    replace hF : Fr w0 w := hF.tr hI.ch (hO.ge (⟨rfl, ⟨rfl, trivial⟩⟩))
    replace hO : IniOK [ob (.pointer (some ⟨b6_1, 0, none⟩)) (.box w0.heap.size 30 E_impl_SetIndex ((0 : Int), (([] : List T_impl_TokenCount), ([] : List T_impl_IndexedSet)))), ob (.pointer (some ⟨b8_6, 0, none⟩)) (.box w0.heap.size 30 E_impl_SetIndex x3), ob (.pointer (some ⟨b10_41, 0, none⟩)) (.box w0.heap.size 55 E_impl_IndexedSet (p1, (([] : List (List UInt8)) ++ p2)))] A w := hI.left hdn [(0, ob (.pointer (some ⟨b6_1, 0, none⟩)) (.box w0.heap.size 30 E_impl_SetIndex ((0 : Int), (([] : List T_impl_TokenCount), ([] : List T_impl_IndexedSet))))), (1, ob (.pointer (some ⟨b8_6, 0, none⟩)) (.box w0.heap.size 30 E_impl_SetIndex x3)), (8, ob (.pointer (some ⟨b10_41, 0, none⟩)) (.box w0.heap.size 55 E_impl_IndexedSet (p1, (([] : List (List UInt8)) ++ p2))))] ⟨rfl, rfl, z40, rfl, rfl, ⟨rfl, rfl, z41, rfl, rfl, ⟨rfl, rfl, e_b10_41, rfl, rfl, trivial⟩⟩⟩
    replace hA := hI.avok
    clear hI
    refine HT.seq ?_
    obtain ⟨e44, hr⟩ := ck_some hr
    obtain ⟨e45, hr⟩ := ck_some hr
    obtain ⟨e46, hr⟩ := ck_some hr
    obtain ⟨e47, hr⟩ := ck_some hr
    obtain ⟨e48, hr⟩ := ck_some hr
    refine HT.drawR [ob (.pointer (some ⟨b6_1, 0, none⟩)) (.box w0.heap.size 30 E_impl_SetIndex ((0 : Int), (([] : List T_impl_TokenCount), ([] : List T_impl_IndexedSet)))), ob (.pointer (some ⟨b8_6, 0, none⟩)) (.box w0.heap.size 30 E_impl_SetIndex x3), ob (.pointer (some ⟨b10_41, 0, none⟩)) (.box w0.heap.size 55 E_impl_IndexedSet (p1, (([] : List (List UInt8)) ++ p2)))] (⟨_, true, [], some (.vec w0.heap.size 55 E_impl_IndexedSet ([] : List T_impl_IndexedSet)), true, fun A => .any⟩ :: ⟨_, true, [], none, true, fun A => .raw (.pointer (some ⟨b8_6, 2, none⟩))⟩ :: ⟨_, true, [], none, true, fun A => .rep (eSl E_impl_IndexedSet) A x3.2.2⟩ :: ⟨_, true, [], none, true, fun A => .raw (.int .i64 s31)⟩ :: ⟨_, true, [], none, true, fun A => .rep (eSl E_impl_IndexedSet) A (subL x3.2.2 0 s31)⟩ :: ⟨_, true, [3], some (.vec w0.heap.size 55 E_impl_IndexedSet (([] : List T_impl_IndexedSet) ++ (subL x3.2.2 0 s31))), true, fun A => .any⟩ :: ⟨_, true, [], none, true, fun A => .rep E_impl_IndexedSet A (p1, (([] : List (List UInt8)) ++ p2))⟩ :: ⟨_, true, [], none, true, fun A => .rep (eSl E_impl_IndexedSet) A ([(p1, (([] : List (List UInt8)) ++ p2))] : List T_impl_IndexedSet)⟩ :: ⟨_, true, [8], some (.vec w0.heap.size 55 E_impl_IndexedSet ((([] : List T_impl_IndexedSet) ++ (subL x3.2.2 0 s31)) ++ ([(p1, (([] : List (List UInt8)) ++ p2))] : List T_impl_IndexedSet))), true, fun A => .any⟩ :: ⟨_, true, [], none, true, fun A => .raw (.pointer (some ⟨b8_6, 2, none⟩))⟩ :: ⟨_, true, [], none, true, fun A => .rep (eSl E_impl_IndexedSet) A x3.2.2⟩ :: ⟨_, true, [], none, true, fun A => .raw (.int .i64 s31)⟩ :: ⟨_, true, [], none, true, fun A => .rep (eSl E_impl_IndexedSet) A (subL x3.2.2 s31 (x3.2.2.length : Int))⟩ :: ⟨_, true, [11], some (.nul), false, fun A => .rep (eSl E_impl_IndexedSet) A (((([] : List T_impl_IndexedSet) ++ (subL x3.2.2 0 s31)) ++ ([(p1, (([] : List (List UInt8)) ++ p2))] : List T_impl_IndexedSet)) ++ (subL x3.2.2 s31 (x3.2.2.length : Int)))⟩ :: ⟨_, true, [], none, true, fun A => .raw (.pointer (some ⟨b8_6, 2, none⟩))⟩ :: ⟨_, true, [1], some (.box w0.heap.size 30 E_impl_SetIndex (x3.1, x3.2.1, (((([] : List T_impl_IndexedSet) ++ (subL x3.2.2 0 s31)) ++ ([(p1, (([] : List (List UInt8)) ++ p2))] : List T_impl_IndexedSet)) ++ (subL x3.2.2 s31 (x3.2.2.length : Int))))), false, fun A => .any⟩ :: []) (by kernel_rfl) (by kernel_rfl) (by kernel_rfl) (Wf.mk' (by kernel_rfl) (UAll.cons ust_any (UAll.cons ust_raw (UAll.cons ust_rep (UAll.cons ust_raw (UAll.cons ust_rep (UAll.cons ust_any (UAll.cons ust_rep (UAll.cons ust_rep (UAll.cons ust_any (UAll.cons ust_raw (UAll.cons ust_rep (UAll.cons ust_raw (UAll.cons ust_rep (UAll.cons ust_rep (UAll.cons ust_raw (UAll.cons ust_any (UAll.nil))))))))))))))))) (by kernel_rfl) (by kernel_rfl)) hO hA ?_ ?_
    · exact
        OblsR.cons (OblR.made _ rfl rfl rfl rfl fun A' R' w' ho hd => by exact made_build [] (E := E_impl_IndexedSet) trivial Try.underlying28 Try.sizeOf55 Try.zeroValue55 rfl rfl rfl (Nat.le_trans hF.size ho.ch.size)) <|
        OblsR.cons (OblR.plain rfl rfl rfl rfl fun A' R' w' ho hd => by have a0 : R' 8 = (.pointer (some ⟨b8_6, 0, none⟩)) := (ho.old 8 rfl).trans h8; exact of_fieldAddr_raw a0 ff_30_2 Try.sizeOf28 (by decide) rfl) <|
        OblsR.cons (OblR.plain rfl rfl rfl rfl fun A' R' w' ho hd => by have a0 : R' 62 = (.pointer (some ⟨b8_6, 2, none⟩)) := hd 0 _ _ _ rfl rfl rfl rfl rfl; exact (of_load_box (ho.rd 1 _ rfl rfl) a0 fl_impl_SetIndex_2 rfl Try.isAgg28 Try.sizeOf28)) <|
        OblsR.cons (OblR.plain rfl rfl rfl rfl fun A' R' w' ho hd => by have a0 : R' 9 = .int .i64 s31 := (ho.old 9 rfl).trans h9; exact of_move a0) <|
        OblsR.cons (OblR.plain rfl rfl rfl rfl fun A' R' w' ho hd => by have a0 : Rep (eSl E_impl_IndexedSet) A' w' (R' 63) x3.2.2 := hd 0 _ _ _ rfl rfl rfl rfl rfl; have a1 : R' 64 = .int .i64 s31 := hd 1 _ _ _ rfl rfl rfl rfl rfl; exact of_slice_sl_hi a0 a1 Try.underlying28 Try.sizeOf55 e44) <|
        OblsR.cons (OblR.took 3 _ _ rfl rfl rfl rfl rfl fun A' R' w' ho hd u hok hav hin hop hds => by have a1 : Rep (eSl E_impl_IndexedSet) A' w' (R' 65) (subL x3.2.2 0 s31) := hd 1 _ _ _ rfl rfl rfl rfl rfl; exact took_append (hop _ _ rfl rfl rfl rfl).symm hok hav (Nat.le_trans hF.size ho.ch.size) a1 Try.underlying28 el_55 e45) <|
        OblsR.cons (OblR.plain rfl rfl rfl rfl fun A' R' w' ho hd => by have a0 : R' 10 = (.pointer (some ⟨b10_41, 0, none⟩)) := (ho.old 10 rfl).trans h10; exact (of_load_box (ho.rd 2 _ rfl rfl) a0 (Fld.id _) rfl Try.isAgg55 Try.sizeOf55)) <|
        OblsR.cons (OblR.plain rfl rfl rfl rfl fun A' R' w' ho hd => by have a0 : Rep E_impl_IndexedSet A' w' (R' 67) (p1, (([] : List (List UInt8)) ++ p2)) := hd 0 _ _ _ rfl rfl rfl rfl rfl; exact of_build [_] (E := E_impl_IndexedSet) ⟨a0, trivial⟩ Try.underlying28 Try.sizeOf55 Try.zeroValue55 rfl rfl rfl ho.av) <|
        OblsR.cons (OblR.took 8 _ _ rfl rfl rfl rfl rfl fun A' R' w' ho hd u hok hav hin hop hds => by have a1 : Rep (eSl E_impl_IndexedSet) A' w' (R' 68) ([(p1, (([] : List (List UInt8)) ++ p2))] : List T_impl_IndexedSet) := hd 1 _ _ _ rfl rfl rfl rfl rfl; exact took_append (hop _ _ rfl rfl rfl rfl).symm hok hav (Nat.le_trans hF.size ho.ch.size) a1 Try.underlying28 el_55 e46) <|
        OblsR.cons (OblR.plain rfl rfl rfl rfl fun A' R' w' ho hd => by have a0 : R' 8 = (.pointer (some ⟨b8_6, 0, none⟩)) := (ho.old 8 rfl).trans h8; exact of_fieldAddr_raw a0 ff_30_2 Try.sizeOf28 (by decide) rfl) <|
        OblsR.cons (OblR.plain rfl rfl rfl rfl fun A' R' w' ho hd => by have a0 : R' 70 = (.pointer (some ⟨b8_6, 2, none⟩)) := hd 0 _ _ _ rfl rfl rfl rfl rfl; exact (of_load_box (ho.rd 1 _ rfl rfl) a0 fl_impl_SetIndex_2 rfl Try.isAgg28 Try.sizeOf28)) <|
        OblsR.cons (OblR.plain rfl rfl rfl rfl fun A' R' w' ho hd => by have a0 : R' 9 = .int .i64 s31 := (ho.old 9 rfl).trans h9; exact of_move a0) <|
        OblsR.cons (OblR.plain rfl rfl rfl rfl fun A' R' w' ho hd => by have a0 : Rep (eSl E_impl_IndexedSet) A' w' (R' 71) x3.2.2 := hd 0 _ _ _ rfl rfl rfl rfl rfl; have a1 : R' 72 = .int .i64 s31 := hd 1 _ _ _ rfl rfl rfl rfl rfl; exact of_slice_sl_lo a0 a1 Try.underlying28 Try.sizeOf55 e47) <|
        OblsR.cons (OblR.frz 11 _ rfl rfl rfl rfl rfl fun A' R' w' ho hd u hok hav hin hop hds => by have a1 : Rep (eSl E_impl_IndexedSet) A' w' (R' 73) (subL x3.2.2 s31 (x3.2.2.length : Int)) := hd 1 _ _ _ rfl rfl rfl rfl rfl; exact OpR.thaw (took_append (hop _ _ rfl rfl rfl rfl).symm hok hav (Nat.le_trans hF.size ho.ch.size) a1 Try.underlying28 el_55 e48) ho.av hav) <|
        OblsR.cons (OblR.plain rfl rfl rfl rfl fun A' R' w' ho hd => by have a0 : R' 8 = (.pointer (some ⟨b8_6, 0, none⟩)) := (ho.old 8 rfl).trans h8; exact of_fieldAddr_raw a0 ff_30_2 Try.sizeOf28 (by decide) rfl) <|
        OblsR.cons (OblR.took 1 _ _ rfl rfl rfl rfl rfl fun A' R' w' ho hd u hok hav hin hop hds => by have a0 : R' 75 = (.pointer (some ⟨b8_6, 2, none⟩)) := hd 0 _ _ _ rfl rfl rfl rfl rfl; have a1 : Rep (eSl E_impl_IndexedSet) A' w' (R' 74) (((([] : List T_impl_IndexedSet) ++ (subL x3.2.2 0 s31)) ++ ([(p1, (([] : List (List UInt8)) ++ p2))] : List T_impl_IndexedSet)) ++ (subL x3.2.2 s31 (x3.2.2.length : Int))) := hd 1 _ _ _ rfl rfl rfl rfl rfl; exact took_store a1 a0 (hin _ rfl) hok hav fs_impl_SetIndex_2 Try.sizeOf28 rfl) <|
        OblsR.nil
    intro done ρ σ A R w hdn hI
    replace h6 : R 6 = (.pointer (some ⟨b6_1, 0, none⟩)) := (hI.reg rfl).trans h6
    replace h8 : R 8 = (.pointer (some ⟨b8_6, 0, none⟩)) := (hI.reg rfl).trans h8
    have z49 := hI.inivR 0 rfl
    have z50 := hI.inivR 1 rfl
    have z51 := (hI.opnR hdn 18 15 rfl rfl rfl rfl rfl).trans z50
    have z52 := hI.inivR 2 rfl
    replace hAA := hI.low' hAA hA0 (hO.ge (⟨rfl, ⟨rfl, ⟨rfl, trivial⟩⟩⟩))
    replace hF : Fr w0 w := hF.tr hI.ch (hO.ge (⟨rfl, ⟨rfl, ⟨rfl, trivial⟩⟩⟩))
    replace hO : IniOK [ob (.pointer (some ⟨b6_1, 0, none⟩)) (.box w0.heap.size 30 E_impl_SetIndex ((0 : Int), (([] : List T_impl_TokenCount), ([] : List T_impl_IndexedSet)))), ob (.pointer (some ⟨b8_6, 0, none⟩)) (.box w0.heap.size 30 E_impl_SetIndex (x3.1, x3.2.1, (((([] : List T_impl_IndexedSet) ++ (subL x3.2.2 0 s31)) ++ ([(p1, (([] : List (List UInt8)) ++ p2))] : List T_impl_IndexedSet)) ++ (subL x3.2.2 s31 (x3.2.2.length : Int)))))] A w := hI.left hdn [(0, ob (.pointer (some ⟨b6_1, 0, none⟩)) (.box w0.heap.size 30 E_impl_SetIndex ((0 : Int), (([] : List T_impl_TokenCount), ([] : List T_impl_IndexedSet))))), (18, ob (.pointer (some ⟨b8_6, 0, none⟩)) (.box w0.heap.size 30 E_impl_SetIndex (x3.1, x3.2.1, (((([] : List T_impl_IndexedSet) ++ (subL x3.2.2 0 s31)) ++ ([(p1, (([] : List (List UInt8)) ++ p2))] : List T_impl_IndexedSet)) ++ (subL x3.2.2 s31 (x3.2.2.length : Int))))))] ⟨rfl, rfl, z49, rfl, rfl, ⟨rfl, rfl, z51, rfl, rfl, trivial⟩⟩
    replace hA := hI.avok
    clear hI
    refine HT.seq ?_
    refine HT.textR [ob (.pointer (some ⟨b6_1, 0, none⟩)) (.box w0.heap.size 30 E_impl_SetIndex ((0 : Int), (([] : List T_impl_TokenCount), ([] : List T_impl_IndexedSet)))), ob (.pointer (some ⟨b8_6, 0, none⟩)) (.box w0.heap.size 30 E_impl_SetIndex (x3.1, x3.2.1, (((([] : List T_impl_IndexedSet) ++ (subL x3.2.2 0 s31)) ++ ([(p1, (([] : List (List UInt8)) ++ p2))] : List T_impl_IndexedSet)) ++ (subL x3.2.2 s31 (x3.2.2.length : Int)))))] (⟨_, true, [], none, true, fun A => .rep E_impl_SetIndex A (x3.1, x3.2.1, (((([] : List T_impl_IndexedSet) ++ (subL x3.2.2 0 s31)) ++ ([(p1, (([] : List (List UInt8)) ++ p2))] : List T_impl_IndexedSet)) ++ (subL x3.2.2 s31 (x3.2.2.length : Int))))⟩ :: ⟨_, true, [0], some (.box w0.heap.size 30 E_impl_SetIndex (x3.1, x3.2.1, (((([] : List T_impl_IndexedSet) ++ (subL x3.2.2 0 s31)) ++ ([(p1, (([] : List (List UInt8)) ++ p2))] : List T_impl_IndexedSet)) ++ (subL x3.2.2 s31 (x3.2.2.length : Int))))), false, fun A => .any⟩ :: ⟨_, true, [], none, true, fun A => .raw (.bool true)⟩ :: []) (by kernel_rfl) (by kernel_rfl) (Wf.mk' (by kernel_rfl) (UAll.cons ust_rep (UAll.cons ust_any (UAll.cons ust_raw (UAll.nil)))) (by kernel_rfl) (by kernel_rfl)) hO hA ?_ ?_
    · exact
        OblsR.cons (OblR.plain rfl rfl rfl rfl fun A' R' w' ho hd => by have a0 : R' 8 = (.pointer (some ⟨b8_6, 0, none⟩)) := (ho.old 8 rfl).trans h8; exact (of_load_box (ho.rd 1 _ rfl rfl) a0 (Fld.id _) rfl Try.isAgg30 Try.sizeOf30)) <|
        OblsR.cons (OblR.took 0 _ _ rfl rfl rfl rfl rfl fun A' R' w' ho hd u hok hav hin hop hds => by have a0 : R' 6 = (.pointer (some ⟨b6_1, 0, none⟩)) := (ho.old 6 rfl).trans h6; have a1 : Rep E_impl_SetIndex A' w' (R' 76) (x3.1, x3.2.1, (((([] : List T_impl_IndexedSet) ++ (subL x3.2.2 0 s31)) ++ ([(p1, (([] : List (List UInt8)) ++ p2))] : List T_impl_IndexedSet)) ++ (subL x3.2.2 s31 (x3.2.2.length : Int)))) := hd 0 _ _ _ rfl rfl rfl rfl rfl; exact took_store a1 a0 (hin _ rfl) hok hav (FldS.id _) Try.sizeOf30 rfl) <|
        OblsR.cons (OblR.plain rfl rfl rfl rfl fun A' R' w' ho hd => by exact of_assign rfl) <|
        OblsR.nil
    intro done ρ σ A R w hdn hI
    replace h6 : R 6 = (.pointer (some ⟨b6_1, 0, none⟩)) := (hI.reg rfl).trans h6
    have z53 := hI.inivR 0 rfl
    have z54 := (hI.opnR hdn 3 1 rfl rfl rfl rfl rfl).trans z53
    have z55 := hI.inivR 1 rfl
    have h7 : R 7 = .bool true := hI.fact hdn (i := 2) rfl rfl rfl
    replace hAA := hI.low' hAA hA0 (hO.ge (⟨rfl, ⟨rfl, trivial⟩⟩))
    replace hF : Fr w0 w := hF.tr hI.ch (hO.ge (⟨rfl, ⟨rfl, trivial⟩⟩))
    replace hO : IniOK [ob (.pointer (some ⟨b6_1, 0, none⟩)) (.box w0.heap.size 30 E_impl_SetIndex (x3.1, x3.2.1, (((([] : List T_impl_IndexedSet) ++ (subL x3.2.2 0 s31)) ++ ([(p1, (([] : List (List UInt8)) ++ p2))] : List T_impl_IndexedSet)) ++ (subL x3.2.2 s31 (x3.2.2.length : Int)))))] A w := hI.left hdn [(3, ob (.pointer (some ⟨b6_1, 0, none⟩)) (.box w0.heap.size 30 E_impl_SetIndex (x3.1, x3.2.1, (((([] : List T_impl_IndexedSet) ++ (subL x3.2.2 0 s31)) ++ ([(p1, (([] : List (List UInt8)) ++ p2))] : List T_impl_IndexedSet)) ++ (subL x3.2.2 s31 (x3.2.2.length : Int))))))] ⟨rfl, rfl, z54, rfl, rfl, trivial⟩
    replace hA := hI.avok
    clear hI
    refine HT.ret ?_
    obtain rfl := Option.some.inj hr
    obtain ⟨v_6, e_6, p_6⟩ := res_cell (hO.ok 0 _ rfl).1 h6 Try.isAgg30 Try.sizeOf30 hAA
    exact ⟨.inr rfl, [v_6, R 7], ⟨e_6, ⟨rfl, trivial⟩⟩, ⟨_, _, rfl, p_6, h7⟩, hF⟩
def M_impl_InsertSet (fu : Nat) (p0 : T_impl_SetIndex) (p1 : Int) (p2 : List (List UInt8)) : Option (T_impl_SetIndex × Bool) :=
  cl true (M_impl_SetIndex_clone fu p0) fun x4 =>
  cl true (M_impl_IsValidSetIndex fu p0) fun x11 =>
  cl (true && ((!x11) == false)) (M_impl_IsTokenSet fu p2) fun x13 =>
  bd ((!x11) || (!x13)) fun x15 =>
  cl (true && (x15 == false)) (M_impl_isSetID fu p1) fun x17 =>
  bd (x15 || (!x17)) fun x19 =>
  bd (x19 || ((p0.2.2.length : Int) == (12 : Int))) fun x21 =>
  bif x21 then (
    some (x4, false)
  ) else (
    cl true (M_impl_SetIndex_find fu p0 p1) fun x28 =>
    bif x28.2 then (
      some (x4, false)
    ) else (
      cl true (M_slices_Clone_string_string fu p2) fun x36 =>
      ck (subR x28.1 (x4.2.2.length : Int) x4.2.2.length) <|
      ck (lenOK (x4.2.2.length + 1)) <|
      some ((x4.1, x4.2.1, (x4.2.2.take x28.1.toNat ++ (p1, x36) :: x4.2.2.drop x28.1.toNat)), true)
    )
  )
set_option linter.unusedSimpArgs false in
set_option maxRecDepth 100000 in
set_option maxHeartbeats 4000000 in
theorem M_impl_InsertSet_ok {fu : Nat} {A0 : Av} {p0 : T_impl_SetIndex} {p1 : Int} {p2 : List (List UInt8)} {r : T_impl_SetIndex × Bool} (hr : M_impl_InsertSet fu p0 p1 p2 = some r) {w : World} {v0 : Value} {v1 : Value} {v2 : Value} (hA : AvOK A0 w) (h0 : Rep E_impl_SetIndex A0 w v0 p0) (h1 : v1 = .int .i64 p1) (h2 : Rep (eSl eStr) A0 w v2 p2) :
    Calls Try.prog 15 #[v0, v1, v2] w fun e w' => ∃ v, e = .returned v ∧ (∃ (u0 : Value) (S0 : Nat → Prop) (A1 : Av), GPost A0 (fun _ => False) w [⟨u0, S0, trR (geB w.heap.size) (oPr (oRd (eInt .i64)) (oPr (oSl 70 (oRd E_impl_TokenCount)) (oSl 55 (oPr (oRd (eInt .i64)) (oSl 9 (oRd eStr)))))) r.1 []⟩] A1 w' ∧ (Fact.tup2 (.raw u0) (.raw (.bool r.2))).ok v w') := by
  unfold M_impl_InsertSet at hr
  obtain ⟨w0, hw0⟩ : ∃ w0, w0 = w := ⟨_, rfl⟩
  have hF : Fr w0 w := hw0 ▸ Fr.refl _
  have hA0 : ∀ b o, A0 b o → b < w0.heap.size := fun b o h => hw0 ▸ hA b o h
  have hA00 : AvOK A0 w0 := hA0
  rw [show GPost A0 (fun _ => False) w = GPost A0 (fun _ => False) w0 from by rw [hw0]]
  rw [show w.heap.size = w0.heap.size from by rw [hw0]]
  clear hw0
  obtain ⟨A, hAe⟩ : ∃ A, A = A0 := ⟨_, rfl⟩
  have hAA : ∀ b o, A0 b o → A b o := fun b o h => hAe ▸ h
  replace hA : AvOK A w := hAe ▸ hA
  have hO : IniOK [] A w := IniOK.nil
  refine calls_of_HT2 [.cell 6 30, .tmp 7] Try.func15 Try.ntmps15 (by decide) rfl rfl (Nat.le_of_ble_eq_true rfl) ?_
  intro R hR
  have f_v0 : Rep E_impl_SetIndex A w v0 p0 := hAe ▸ h0
  replace h0 : R 0 = v0 := hR 0 _ rfl
  replace h1 : R 1 = .int .i64 p1 := (hR 1 _ rfl).trans h1
  have f_v2 : Rep (eSl eStr) A w v2 p2 := hAe ▸ h2
  replace h2 : R 2 = v2 := hR 2 _ rfl
  clear hR hAe
  refine HT.seq ?_
  refine HT.textR [] (⟨_, true, [], some (.box w0.heap.size 30 E_impl_SetIndex p0), true, fun A => .any⟩ :: ⟨_, true, [], some (trR (geB w0.heap.size) (oPt 30 (oPr (oRd (eInt .i64)) (oPr (oSl 70 (oRd E_impl_TokenCount)) (oSl 55 (oPr (oRd (eInt .i64)) (oSl 9 (oRd eStr))))))) ((0 : Int), (([] : List T_impl_TokenCount), ([] : List T_impl_IndexedSet))) []), true, fun A => .any⟩ :: ⟨_, true, [], none, true, fun A => .raw (.bool false)⟩ :: []) (by kernel_rfl) (by kernel_rfl) (Wf.mk' (by kernel_rfl) (UAll.cons ust_any (UAll.cons ust_any (UAll.cons ust_raw (UAll.nil)))) (by kernel_rfl) (by kernel_rfl)) hO hA ?_ ?_
  · exact
      OblsR.cons (OblR.made _ rfl rfl rfl rfl fun A' R' w' ho hd => by have a0 : R' 0 = v0 := (ho.old 0 rfl).trans h0; have ra0 := (f_v0.stp ho.stp).eq a0; exact made_box ra0 (Nat.le_trans hF.size ho.ch.size)) <|
      OblsR.cons (OblR.madeS _ rfl rfl rfl rfl fun A' R' w' ho hd => by exact made_allocT Try.zeroValue30 (fun A w => own_pr (own_rd rep1_int) (own_pr own_nil own_nil)) (fun k hk => Nat.le_trans (Nat.le_trans hF.size ho.ch.size) hk)) <|
      OblsR.cons (OblR.plain rfl rfl rfl rfl fun A' R' w' ho hd => by exact of_assign rfl) <|
      OblsR.nil
  intro done ρ σ A R w hdn hI
  replace h1 : R 1 = .int .i64 p1 := (hI.reg rfl).trans h1
  replace h2 : R 2 = v2 := (hI.reg rfl).trans h2
  obtain ⟨b3_0, e_b3_0⟩ := hI.boxv hdn 0 rfl rfl
  have h3 : R 3 = (.pointer (some ⟨b3_0, 0, none⟩)) := (hI.opvR hdn 0 0 rfl rfl rfl rfl rfl).symm.trans e_b3_0
  obtain ⟨u2, e_u2⟩ : ∃ u, ρ 1 = u := ⟨_, rfl⟩
  have h6 : R 6 = u2 := (hI.opvR hdn 1 1 rfl rfl rfl rfl rfl).symm.trans e_u2
  obtain ⟨S3, eS_u2⟩ : ∃ S, σ 1 = S := ⟨_, rfl⟩
  replace f_v2 := f_v2.stp hI.stp
  replace hAA := hI.low' hAA hA0 (hO.ge (trivial))
  replace hF : Fr w0 w := hF.tr hI.ch (hO.ge (trivial))
  replace hO : IniOK [ob (.pointer (some ⟨b3_0, 0, none⟩)) (.box w0.heap.size 30 E_impl_SetIndex p0), ⟨u2, S3, trR (geB w0.heap.size) (oPt 30 (oPr (oRd (eInt .i64)) (oPr (oSl 70 (oRd E_impl_TokenCount)) (oSl 55 (oPr (oRd (eInt .i64)) (oSl 9 (oRd eStr))))))) ((0 : Int), (([] : List T_impl_TokenCount), ([] : List T_impl_IndexedSet))) []⟩] A w := hI.left hdn [(0, ob (.pointer (some ⟨b3_0, 0, none⟩)) (.box w0.heap.size 30 E_impl_SetIndex p0)), (1, ⟨u2, S3, trR (geB w0.heap.size) (oPt 30 (oPr (oRd (eInt .i64)) (oPr (oSl 70 (oRd E_impl_TokenCount)) (oSl 55 (oPr (oRd (eInt .i64)) (oSl 9 (oRd eStr))))))) ((0 : Int), (([] : List T_impl_TokenCount), ([] : List T_impl_IndexedSet))) []⟩)] ⟨rfl, rfl, e_b3_0, rfl, rfl, ⟨rfl, rfl, e_u2, eS_u2, rfl, trivial⟩⟩
  replace hA := hI.avok
  clear hI
  refine HT.seq ?_
  obtain ⟨x4, q5, hr⟩ := cl_some hr
  refine HT.textR [ob (.pointer (some ⟨b3_0, 0, none⟩)) (.box w0.heap.size 30 E_impl_SetIndex p0), ⟨u2, S3, trR (geB w0.heap.size) (oPt 30 (oPr (oRd (eInt .i64)) (oPr (oSl 70 (oRd E_impl_TokenCount)) (oSl 55 (oPr (oRd (eInt .i64)) (oSl 9 (oRd eStr))))))) ((0 : Int), (([] : List T_impl_TokenCount), ([] : List T_impl_IndexedSet))) []⟩] (⟨_, true, [], none, true, fun A => .rep E_impl_SetIndex A p0⟩ :: ⟨_, true, [], some (trR (geB w0.heap.size) (oPr (oRd (eInt .i64)) (oPr (oSl 70 (oRd E_impl_TokenCount)) (oSl 55 (oPr (oRd (eInt .i64)) (oSl 9 (oRd eStr)))))) x4 []), true, fun A => .any⟩ :: ⟨_, true, [], some (trR (geB w0.heap.size) (oPt 30 (oPr (oRd (eInt .i64)) (oPr (oSl 70 (oRd E_impl_TokenCount)) (oSl 55 (oPr (oRd (eInt .i64)) (oSl 9 (oRd eStr))))))) ((0 : Int), (([] : List T_impl_TokenCount), ([] : List T_impl_IndexedSet))) []), true, fun A => .any⟩ :: ⟨_, true, [4, 3], some (trR (geB w0.heap.size) (oPt 30 (oPr (oRd (eInt .i64)) (oPr (oSl 70 (oRd E_impl_TokenCount)) (oSl 55 (oPr (oRd (eInt .i64)) (oSl 9 (oRd eStr))))))) x4 []), false, fun A => .any⟩ :: []) (by kernel_rfl) (by kernel_rfl) (Wf.mk' (by kernel_rfl) (UAll.cons ust_rep (UAll.cons ust_any (UAll.cons ust_any (UAll.cons ust_any (UAll.nil))))) (by kernel_rfl) (by kernel_rfl)) hO hA ?_ ?_
  · exact
      OblsR.cons (OblR.plain rfl rfl rfl rfl fun A' R' w' ho hd => by have a0 : R' 3 = (.pointer (some ⟨b3_0, 0, none⟩)) := (ho.old 3 rfl).trans h3; exact (of_load_box (ho.rd 0 _ rfl rfl) a0 (Fld.id _) rfl Try.isAgg30 Try.sizeOf30)) <|
      OblsR.cons (OblR.madeS _ rfl rfl rfl rfl fun A' R' w' ho hd => by have a0 : Rep E_impl_SetIndex A' w' (R' 11) p0 := hd 0 _ _ _ rfl rfl rfl rfl rfl; exact made_callT Try.call25 (M_impl_SetIndex_clone_ok (q5 rfl) ho.av a0) (fun k hk => Nat.le_trans (Nat.le_trans hF.size ho.ch.size) hk)) <|
      OblsR.cons (OblR.madeS _ rfl rfl rfl rfl fun A' R' w' ho hd => by exact made_allocT Try.zeroValue30 (fun A w => own_pr (own_rd rep1_int) (own_pr own_nil own_nil)) (fun k hk => Nat.le_trans (Nat.le_trans hF.size ho.ch.size) hk)) <|
      OblsR.cons (OblR.tookM 4 [3] _ rfl rfl rfl rfl fun A' R' w' ho hd ρ σ hok hav hin hop hds hdd => by have k1 := hok 4 (.head _) _ rfl; exact took_put2 rfl (tr_root k1.2.2).ptr (hok 3 (.tail _ (.head _)) _ rfl).2.2.1 (hop 3 (.tail _ (.head _)) _ _ rfl rfl rfl rfl).symm (hop 4 (.head _) _ _ rfl rfl rfl rfl).symm hav hdd k1.2.1 (hok 3 (.tail _ (.head _)) _ rfl).2.1 Try.sizeOf30 (fun _ _ _ h => h)) <|
      OblsR.nil
  intro done ρ σ A R w hdn hI
  replace h1 : R 1 = .int .i64 p1 := (hI.reg rfl).trans h1
  replace h2 : R 2 = v2 := (hI.reg rfl).trans h2
  replace h3 : R 3 = (.pointer (some ⟨b3_0, 0, none⟩)) := (hI.reg rfl).trans h3
  replace h6 : R 6 = u2 := (hI.reg rfl).trans h6
  have z6 := hI.inivR 0 rfl
  have z7 := hI.inivR 1 rfl
  obtain ⟨u8, e_u8⟩ : ∃ u, ρ 5 = u := ⟨_, rfl⟩
  have z9 := (hI.opnR hdn 5 3 rfl rfl rfl rfl rfl).symm.trans e_u8
  have h8 : R 8 = u8 := (hI.opvR hdn 4 2 rfl rfl rfl rfl rfl).symm.trans z9
  have eS_u2 := hI.inisR 1 rfl
  obtain ⟨S10, eS_u8⟩ : ∃ S, σ 5 = S := ⟨_, rfl⟩
  replace f_v2 := f_v2.stp hI.stp
  replace hAA := hI.low' hAA hA0 (hO.ge (⟨rfl, ⟨fun _ h => h, trivial⟩⟩))
  replace hF : Fr w0 w := hF.tr hI.ch (hO.ge (⟨rfl, ⟨fun _ h => h, trivial⟩⟩))
  replace hO : IniOK [ob (.pointer (some ⟨b3_0, 0, none⟩)) (.box w0.heap.size 30 E_impl_SetIndex p0), ⟨u2, S3, trR (geB w0.heap.size) (oPt 30 (oPr (oRd (eInt .i64)) (oPr (oSl 70 (oRd E_impl_TokenCount)) (oSl 55 (oPr (oRd (eInt .i64)) (oSl 9 (oRd eStr))))))) ((0 : Int), (([] : List T_impl_TokenCount), ([] : List T_impl_IndexedSet))) []⟩, ⟨u8, S10, trR (geB w0.heap.size) (oPt 30 (oPr (oRd (eInt .i64)) (oPr (oSl 70 (oRd E_impl_TokenCount)) (oSl 55 (oPr (oRd (eInt .i64)) (oSl 9 (oRd eStr))))))) x4 []⟩] A w := hI.left hdn [(0, ob (.pointer (some ⟨b3_0, 0, none⟩)) (.box w0.heap.size 30 E_impl_SetIndex p0)), (1, ⟨u2, S3, trR (geB w0.heap.size) (oPt 30 (oPr (oRd (eInt .i64)) (oPr (oSl 70 (oRd E_impl_TokenCount)) (oSl 55 (oPr (oRd (eInt .i64)) (oSl 9 (oRd eStr))))))) ((0 : Int), (([] : List T_impl_TokenCount), ([] : List T_impl_IndexedSet))) []⟩), (5, ⟨u8, S10, trR (geB w0.heap.size) (oPt 30 (oPr (oRd (eInt .i64)) (oPr (oSl 70 (oRd E_impl_TokenCount)) (oSl 55 (oPr (oRd (eInt .i64)) (oSl 9 (oRd eStr))))))) x4 []⟩)] ⟨rfl, rfl, z6, rfl, rfl, ⟨rfl, rfl, z7, eS_u2, rfl, ⟨rfl, rfl, e_u8, eS_u8, rfl, trivial⟩⟩⟩
  replace hA := hI.avok
  clear hI
  refine HT.seq ?_
  refine HT.seq ?_
  obtain ⟨x11, q12, hr⟩ := cl_some hr
  obtain ⟨x13, q14, hr⟩ := cl_some hr
  obtain ⟨x15, q16, hr⟩ := bd_some hr
  obtain ⟨x17, q18, hr⟩ := cl_some hr
  obtain ⟨x19, q20, hr⟩ := bd_some hr
  obtain ⟨x21, q22, hr⟩ := bd_some hr
  refine HT.text (l := ⟨_, true, .rep E_impl_SetIndex A p0⟩ :: ⟨_, true, .raw (.bool x11)⟩ :: ⟨_, true, .raw (.bool (!x11))⟩ :: ⟨_, true, .raw (.bool (!x11))⟩ :: ⟨_, (true && ((!x11) == false)), .raw v2⟩ :: ⟨_, (true && ((!x11) == false)), .raw (.bool x13)⟩ :: ⟨_, (true && ((!x11) == false)), .raw (.bool (!x13))⟩ :: ⟨_, true, .raw (.bool x15)⟩ :: ⟨_, true, .raw (.bool x15)⟩ :: ⟨_, (true && (x15 == false)), .raw (.int .i64 p1)⟩ :: ⟨_, (true && (x15 == false)), .raw (.bool x17)⟩ :: ⟨_, (true && (x15 == false)), .raw (.bool (!x17))⟩ :: ⟨_, true, .raw (.bool x19)⟩ :: ⟨_, true, .raw (.bool x19)⟩ :: ⟨_, (true && (x19 == false)), .raw (.pointer (some ⟨b3_0, 2, none⟩))⟩ :: ⟨_, (true && (x19 == false)), .rep (eSl E_impl_IndexedSet) A p0.2.2⟩ :: ⟨_, (true && (x19 == false)), .raw (.int .i64 (p0.2.2.length : Int))⟩ :: ⟨_, (true && (x19 == false)), .raw (.bool ((p0.2.2.length : Int) == (12 : Int)))⟩ :: ⟨_, true, .raw (.bool x21)⟩ :: []) (tl := []) (by kernel_rfl) (by kernel_rfl) (by kernel_rfl) ?_ ?_
  · exact
      Obls.cons (Obl.plain rfl rfl fun R' w' hw hs hd => by have a0 : R' 3 = (.pointer (some ⟨b3_0, 0, none⟩)) := (hs 3 rfl).trans h3; exact (of_load_box ((hO.fr hw).ok 0 _ rfl).1 a0 (Fld.id _) rfl Try.isAgg30 Try.sizeOf30)) <|
      Obls.cons (Obl.plain rfl rfl fun R' w' hw hs hd => by have a0 : Rep E_impl_SetIndex A w' (R' 13) p0 := hd 0 _ _ _ rfl rfl rfl rfl rfl; exact of_call Try.call26 (M_impl_IsValidSetIndex_ok (q12 rfl) (hA.fr hw.size) a0)) <|
      Obls.cons (Obl.plain rfl rfl fun R' w' hw hs hd => by have a0 : R' 14 = .bool x11 := hd 0 _ _ _ rfl rfl rfl rfl rfl; exact of_not a0) <|
      Obls.cons (Obl.plain rfl rfl fun R' w' hw hs hd => by have a0 : R' 15 = .bool (!x11) := hd 0 _ _ _ rfl rfl rfl rfl rfl; exact of_move a0) <|
      Obls.cons (Obl.grd 3 false _ _ _ rfl rfl rfl rfl rfl (by kernel_rfl) fun hg R' w' hw hs hd => by have a0 : R' 2 = v2 := (hs 2 rfl).trans h2; exact of_move a0) <|
      Obls.cons (Obl.grd 3 false _ _ _ rfl rfl rfl rfl rfl (by kernel_rfl) fun hg R' w' hw hs hd => by have a0 : R' 17 = v2 := hd 0 _ _ _ rfl rfl rfl rfl hg; have ra0 := (f_v2.fr hw).eq a0; exact of_call Try.call38 (M_impl_IsTokenSet_ok (q14 hg) (hA.fr hw.size) ra0)) <|
      Obls.cons (Obl.grd 3 false _ _ _ rfl rfl rfl rfl rfl (by kernel_rfl) fun hg R' w' hw hs hd => by have a0 : R' 18 = .bool x13 := hd 0 _ _ _ rfl rfl rfl rfl hg; exact of_not a0) <|
      Obls.cons (Obl.plain rfl rfl fun R' w' hw hs hd => by have a0 : R' 16 = .bool (!x11) := hd 0 _ _ _ rfl rfl rfl rfl rfl; exact of_pick (!x11) a0 (fun hc => by show _ = Value.bool x15; rw [q16, hc]; exact rfl) (fun hc => by have a2 : R' 19 = .bool (!x13) := hd 1 _ _ _ rfl rfl rfl rfl (g_and rfl (beq_of hc)); show _ = Value.bool x15; rw [q16, hc]; exact a2)) <|
      Obls.cons (Obl.plain rfl rfl fun R' w' hw hs hd => by have a0 : R' 20 = .bool x15 := hd 0 _ _ _ rfl rfl rfl rfl rfl; exact of_move a0) <|
      Obls.cons (Obl.grd 8 false _ _ _ rfl rfl rfl rfl rfl (by kernel_rfl) fun hg R' w' hw hs hd => by have a0 : R' 1 = .int .i64 p1 := (hs 1 rfl).trans h1; exact of_move a0) <|
      Obls.cons (Obl.grd 8 false _ _ _ rfl rfl rfl rfl rfl (by kernel_rfl) fun hg R' w' hw hs hd => by have a0 : R' 22 = .int .i64 p1 := hd 0 _ _ _ rfl rfl rfl rfl hg; exact of_call Try.call27 (M_impl_isSetID_ok (q18 hg) (hA.fr hw.size) a0)) <|
      Obls.cons (Obl.grd 8 false _ _ _ rfl rfl rfl rfl rfl (by kernel_rfl) fun hg R' w' hw hs hd => by have a0 : R' 23 = .bool x17 := hd 0 _ _ _ rfl rfl rfl rfl hg; exact of_not a0) <|
      Obls.cons (Obl.plain rfl rfl fun R' w' hw hs hd => by have a0 : R' 21 = .bool x15 := hd 0 _ _ _ rfl rfl rfl rfl rfl; exact of_pick x15 a0 (fun hc => by show _ = Value.bool x19; rw [q20, hc]; exact rfl) (fun hc => by have a2 : R' 24 = .bool (!x17) := hd 1 _ _ _ rfl rfl rfl rfl (g_and rfl (beq_of hc)); show _ = Value.bool x19; rw [q20, hc]; exact a2)) <|
      Obls.cons (Obl.plain rfl rfl fun R' w' hw hs hd => by have a0 : R' 25 = .bool x19 := hd 0 _ _ _ rfl rfl rfl rfl rfl; exact of_move a0) <|
      Obls.cons (Obl.grd 13 false _ _ _ rfl rfl rfl rfl rfl (by kernel_rfl) fun hg R' w' hw hs hd => by have a0 : R' 3 = (.pointer (some ⟨b3_0, 0, none⟩)) := (hs 3 rfl).trans h3; exact of_fieldAddr_raw a0 ff_30_2 Try.sizeOf28 (by decide) rfl) <|
      Obls.cons (Obl.grd 13 false _ _ _ rfl rfl rfl rfl rfl (by kernel_rfl) fun hg R' w' hw hs hd => by have a0 : R' 27 = (.pointer (some ⟨b3_0, 2, none⟩)) := hd 0 _ _ _ rfl rfl rfl rfl hg; exact (of_load_box ((hO.fr hw).ok 0 _ rfl).1 a0 fl_impl_SetIndex_2 rfl Try.isAgg28 Try.sizeOf28)) <|
      Obls.cons (Obl.grd 13 false _ _ _ rfl rfl rfl rfl rfl (by kernel_rfl) fun hg R' w' hw hs hd => by have a0 : Rep (eSl E_impl_IndexedSet) A w' (R' 28) p0.2.2 := hd 0 _ _ _ rfl rfl rfl rfl hg; exact of_len_sl (aT := #[]) a0 Try.underlying28) <|
      Obls.cons (Obl.grd 13 false _ _ _ rfl rfl rfl rfl rfl (by kernel_rfl) fun hg R' w' hw hs hd => by have a0 : R' 29 = .int .i64 (p0.2.2.length : Int) := hd 0 _ _ _ rfl rfl rfl rfl hg; exact of_eql a0 rfl) <|
      Obls.cons (Obl.plain rfl rfl fun R' w' hw hs hd => by have a0 : R' 26 = .bool x19 := hd 0 _ _ _ rfl rfl rfl rfl rfl; exact of_pick x19 a0 (fun hc => by show _ = Value.bool x21; rw [q22, hc]; exact rfl) (fun hc => by have a2 : R' 30 = .bool ((p0.2.2.length : Int) == (12 : Int)) := hd 1 _ _ _ rfl rfl rfl rfl (g_and rfl (beq_of hc)); show _ = Value.bool x21; rw [q22, hc]; exact a2)) <|
      Obls.nil
  intro R w hw hs hF'
  replace h1 : R 1 = .int .i64 p1 := (hs 1 rfl).trans h1
  replace h2 : R 2 = v2 := (hs 2 rfl).trans h2
  replace h3 : R 3 = (.pointer (some ⟨b3_0, 0, none⟩)) := (hs 3 rfl).trans h3
  replace h6 : R 6 = u2 := (hs 6 rfl).trans h6
  replace h8 : R 8 = u8 := (hs 8 rfl).trans h8
  have h31 : R 31 = .bool x21 := hF' 18 _ _ rfl rfl rfl
  replace f_v2 := f_v2.fr hw
  replace hO := hO.fr hw
  replace hA := hA.fr hw.size
  replace hF := hF.trans hw
  clear hs hF' hw
  refine seqR_nil ?_
  refine HT.cond x21 h31 (fun c23 => ?_) (fun c23 => ?_)
  · have hr := cnd_t c23 hr
    refine HT.seq ?_
    refine HT.textR [ob (.pointer (some ⟨b3_0, 0, none⟩)) (.box w0.heap.size 30 E_impl_SetIndex p0), ⟨u2, S3, trR (geB w0.heap.size) (oPt 30 (oPr (oRd (eInt .i64)) (oPr (oSl 70 (oRd E_impl_TokenCount)) (oSl 55 (oPr (oRd (eInt .i64)) (oSl 9 (oRd eStr))))))) ((0 : Int), (([] : List T_impl_TokenCount), ([] : List T_impl_IndexedSet))) []⟩, ⟨u8, S10, trR (geB w0.heap.size) (oPt 30 (oPr (oRd (eInt .i64)) (oPr (oSl 70 (oRd E_impl_TokenCount)) (oSl 55 (oPr (oRd (eInt .i64)) (oSl 9 (oRd eStr))))))) x4 []⟩] (⟨_, true, [2], some (trR (geB w0.heap.size) (oPr (oRd (eInt .i64)) (oPr (oSl 70 (oRd E_impl_TokenCount)) (oSl 55 (oPr (oRd (eInt .i64)) (oSl 9 (oRd eStr)))))) x4 []), true, fun A => .any⟩ :: ⟨_, true, [1, 3], some (trR (geB w0.heap.size) (oPt 30 (oPr (oRd (eInt .i64)) (oPr (oSl 70 (oRd E_impl_TokenCount)) (oSl 55 (oPr (oRd (eInt .i64)) (oSl 9 (oRd eStr))))))) x4 []), false, fun A => .any⟩ :: ⟨_, true, [], none, true, fun A => .raw (.bool false)⟩ :: []) (by kernel_rfl) (by kernel_rfl) (Wf.mk' (by kernel_rfl) (UAll.cons ust_any (UAll.cons ust_any (UAll.cons ust_raw (UAll.nil)))) (by kernel_rfl) (by kernel_rfl)) hO hA ?_ ?_
    · exact
        OblsR.cons (OblR.tookS 2 _ _ rfl rfl rfl rfl rfl fun A' R' w' ho hd u S hok hown hav hin hop hds => by have a0 : R' 8 = u8 := (ho.old 8 rfl).trans h8; exact took_loadT hown.2 (a0.trans (hin _ rfl).1.symm) hav hown.1 Try.isAgg30 Try.sizeOf30) <|
        OblsR.cons (OblR.tookM 1 [3] _ rfl rfl rfl rfl fun A' R' w' ho hd ρ σ hok hav hin hop hds hdd => by have a0 : R' 6 = u2 := (ho.old 6 rfl).trans h6; have k1 := hok 1 (.head _) _ rfl; have e0 := (hin 1 (.head _) _ rfl).1; rw [e0] at k1 ⊢; exact took_put2 rfl (tr_root k1.2.2).ptr (hok 3 (.tail _ (.head _)) _ rfl).2.2.1 (hop 3 (.tail _ (.head _)) _ _ rfl rfl rfl rfl).symm a0 hav hdd k1.2.1 (hok 3 (.tail _ (.head _)) _ rfl).2.1 Try.sizeOf30 (fun _ _ _ h => h)) <|
        OblsR.cons (OblR.plain rfl rfl rfl rfl fun A' R' w' ho hd => by exact of_assign rfl) <|
        OblsR.nil
    intro done ρ σ A R w hdn hI
    replace h6 : R 6 = u2 := (hI.reg rfl).trans h6
    have z24 := hI.inivR 0 rfl
    have z25 := hI.inivR 1 rfl
    have z26 := (hI.opnR hdn 4 1 rfl rfl rfl rfl rfl).trans z25
    obtain ⟨S27, eS_u2⟩ : ∃ S, σ 4 = S := ⟨_, rfl⟩
    have h7 : R 7 = .bool false := hI.fact hdn (i := 2) rfl rfl rfl
    replace hAA := hI.low' hAA hA0 (hO.ge (⟨rfl, ⟨fun _ h => h, ⟨fun _ h => h, trivial⟩⟩⟩))
    replace hF : Fr w0 w := hF.tr hI.ch (hO.ge (⟨rfl, ⟨fun _ h => h, ⟨fun _ h => h, trivial⟩⟩⟩))
    replace hO : IniOK [⟨u2, S27, trR (geB w0.heap.size) (oPt 30 (oPr (oRd (eInt .i64)) (oPr (oSl 70 (oRd E_impl_TokenCount)) (oSl 55 (oPr (oRd (eInt .i64)) (oSl 9 (oRd eStr))))))) x4 []⟩] A w := hI.left hdn [(4, ⟨u2, S27, trR (geB w0.heap.size) (oPt 30 (oPr (oRd (eInt .i64)) (oPr (oSl 70 (oRd E_impl_TokenCount)) (oSl 55 (oPr (oRd (eInt .i64)) (oSl 9 (oRd eStr))))))) x4 []⟩)] ⟨rfl, rfl, z26, eS_u2, rfl, trivial⟩
    replace hA := hI.avok
    clear hI
    refine HT.ret ?_
    obtain rfl := Option.some.inj hr
    obtain ⟨v_6, S_6, e_6, hO⟩ := hO.unbox 0 rfl h6 Try.isAgg30 Try.sizeOf30
    obtain ⟨A1, hA1, hG1⟩ := GPost.of hO hA hAA (fun k hk => .inl (hO.ge (⟨fun _ h => h, trivial⟩) k hk)) (hF.ch (fun _ => False))
    exact ⟨.inr rfl, [v_6, R 7], ⟨e_6, ⟨rfl, trivial⟩⟩, v_6, S_6, A1, hG1, ⟨_, _, rfl, rfl, h7⟩⟩
  · have hr := cnd_f c23 hr
    refine HT.skip ?_
    refine HT.seq ?_
    obtain ⟨x28, q29, hr⟩ := cl_some hr
    refine HT.text (l := ⟨_, true, .rep E_impl_SetIndex A p0⟩ :: ⟨_, true, .raw (.int .i64 p1)⟩ :: ⟨_, true, .tup2 (.raw (.int .i64 x28.1)) (.raw (.bool x28.2))⟩ :: ⟨_, true, .tup2 (.raw (.int .i64 x28.1)) (.raw (.bool x28.2))⟩ :: ⟨_, true, .raw (.int .i64 x28.1)⟩ :: ⟨_, true, .raw (.bool x28.2)⟩ :: ⟨_, true, .raw (.int .i64 x28.1)⟩ :: ⟨_, true, .raw (.bool x28.2)⟩ :: []) (tl := []) (by kernel_rfl) (by kernel_rfl) (by kernel_rfl) ?_ ?_
    · exact
        Obls.cons (Obl.plain rfl rfl fun R' w' hw hs hd => by have a0 : R' 3 = (.pointer (some ⟨b3_0, 0, none⟩)) := (hs 3 rfl).trans h3; exact (of_load_box ((hO.fr hw).ok 0 _ rfl).1 a0 (Fld.id _) rfl Try.isAgg30 Try.sizeOf30)) <|
        Obls.cons (Obl.plain rfl rfl fun R' w' hw hs hd => by have a0 : R' 1 = .int .i64 p1 := (hs 1 rfl).trans h1; exact of_move a0) <|
        Obls.cons (Obl.plain rfl rfl fun R' w' hw hs hd => by have a0 : Rep E_impl_SetIndex A w' (R' 34) p0 := hd 0 _ _ _ rfl rfl rfl rfl rfl; have a1 : R' 35 = .int .i64 p1 := hd 1 _ _ _ rfl rfl rfl rfl rfl; exact of_call Try.call28 (M_impl_SetIndex_find_ok (q29 rfl) (hA.fr hw.size) a0 a1)) <|
        Obls.cons (Obl.plain rfl rfl fun R' w' hw hs hd => by have a0 : Fact.ok (.tup2 (.raw (.int .i64 x28.1)) (.raw (.bool x28.2))) (R' 36) w' := hd 0 _ _ _ rfl rfl rfl rfl rfl; exact of_move a0) <|
        Obls.cons (Obl.plain rfl rfl fun R' w' hw hs hd => by have a0 : Fact.ok (.tup2 (.raw (.int .i64 x28.1)) (.raw (.bool x28.2))) (R' 33) w' := hd 0 _ _ _ rfl rfl rfl rfl rfl; exact of_extract2_0 a0) <|
        Obls.cons (Obl.plain rfl rfl fun R' w' hw hs hd => by have a0 : Fact.ok (.tup2 (.raw (.int .i64 x28.1)) (.raw (.bool x28.2))) (R' 33) w' := hd 0 _ _ _ rfl rfl rfl rfl rfl; exact of_extract2_1 a0) <|
        Obls.cons (Obl.plain rfl rfl fun R' w' hw hs hd => by have a0 : R' 37 = .int .i64 x28.1 := hd 0 _ _ _ rfl rfl rfl rfl rfl; exact of_assign a0) <|
        Obls.cons (Obl.plain rfl rfl fun R' w' hw hs hd => by have a0 : R' 38 = .bool x28.2 := hd 0 _ _ _ rfl rfl rfl rfl rfl; exact of_assign a0) <|
        Obls.nil
    intro R w hw hs hF'
    replace h1 : R 1 = .int .i64 p1 := (hs 1 rfl).trans h1
    replace h2 : R 2 = v2 := (hs 2 rfl).trans h2
    replace h6 : R 6 = u2 := (hs 6 rfl).trans h6
    replace h8 : R 8 = u8 := (hs 8 rfl).trans h8
    have h9 : R 9 = .int .i64 x28.1 := hF' 6 _ _ rfl rfl rfl
    have h10 : R 10 = .bool x28.2 := hF' 7 _ _ rfl rfl rfl
    replace f_v2 := f_v2.fr hw
    replace hO := hO.fr hw
    replace hO : IniOK [⟨u2, S3, trR (geB w0.heap.size) (oPt 30 (oPr (oRd (eInt .i64)) (oPr (oSl 70 (oRd E_impl_TokenCount)) (oSl 55 (oPr (oRd (eInt .i64)) (oSl 9 (oRd eStr))))))) ((0 : Int), (([] : List T_impl_TokenCount), ([] : List T_impl_IndexedSet))) []⟩, ⟨u8, S10, trR (geB w0.heap.size) (oPt 30 (oPr (oRd (eInt .i64)) (oPr (oSl 70 (oRd E_impl_TokenCount)) (oSl 55 (oPr (oRd (eInt .i64)) (oSl 9 (oRd eStr))))))) x4 []⟩] A w := hO.sub [(1, ⟨u2, S3, trR (geB w0.heap.size) (oPt 30 (oPr (oRd (eInt .i64)) (oPr (oSl 70 (oRd E_impl_TokenCount)) (oSl 55 (oPr (oRd (eInt .i64)) (oSl 9 (oRd eStr))))))) ((0 : Int), (([] : List T_impl_TokenCount), ([] : List T_impl_IndexedSet))) []⟩), (2, ⟨u8, S10, trR (geB w0.heap.size) (oPt 30 (oPr (oRd (eInt .i64)) (oPr (oSl 70 (oRd E_impl_TokenCount)) (oSl 55 (oPr (oRd (eInt .i64)) (oSl 9 (oRd eStr))))))) x4 []⟩)] ⟨rfl, rfl, ⟨rfl, rfl, trivial⟩⟩
    replace hA := hA.fr hw.size
    replace hF := hF.trans hw
    clear hs hF' hw
    refine seqR_nil ?_
    refine HT.seq ?_
    refine HT.seq ?_
    refine HT.text (l := ⟨_, true, .raw (.bool x28.2)⟩ :: []) (tl := []) (by kernel_rfl) (by kernel_rfl) (by kernel_rfl) ?_ ?_
    · exact
        Obls.cons (Obl.plain rfl rfl fun R' w' hw hs hd => by have a0 : R' 10 = .bool x28.2 := (hs 10 rfl).trans h10; exact of_move a0) <|
        Obls.nil
    intro R w hw hs hF'
    replace h1 : R 1 = .int .i64 p1 := (hs 1 rfl).trans h1
    replace h2 : R 2 = v2 := (hs 2 rfl).trans h2
    replace h6 : R 6 = u2 := (hs 6 rfl).trans h6
    replace h8 : R 8 = u8 := (hs 8 rfl).trans h8
    replace h9 : R 9 = .int .i64 x28.1 := (hs 9 rfl).trans h9
    have h39 : R 39 = .bool x28.2 := hF' 0 _ _ rfl rfl rfl
    replace f_v2 := f_v2.fr hw
    replace hO := hO.fr hw
    replace hA := hA.fr hw.size
    replace hF := hF.trans hw
    clear hs hF' hw
    refine seqR_nil ?_
    refine HT.cond x28.2 h39 (fun c30 => ?_) (fun c30 => ?_)
    · have hr := cnd_t c30 hr
      refine HT.seq ?_
      refine HT.textR [⟨u2, S3, trR (geB w0.heap.size) (oPt 30 (oPr (oRd (eInt .i64)) (oPr (oSl 70 (oRd E_impl_TokenCount)) (oSl 55 (oPr (oRd (eInt .i64)) (oSl 9 (oRd eStr))))))) ((0 : Int), (([] : List T_impl_TokenCount), ([] : List T_impl_IndexedSet))) []⟩, ⟨u8, S10, trR (geB w0.heap.size) (oPt 30 (oPr (oRd (eInt .i64)) (oPr (oSl 70 (oRd E_impl_TokenCount)) (oSl 55 (oPr (oRd (eInt .i64)) (oSl 9 (oRd eStr))))))) x4 []⟩] (⟨_, true, [1], some (trR (geB w0.heap.size) (oPr (oRd (eInt .i64)) (oPr (oSl 70 (oRd E_impl_TokenCount)) (oSl 55 (oPr (oRd (eInt .i64)) (oSl 9 (oRd eStr)))))) x4 []), true, fun A => .any⟩ :: ⟨_, true, [0, 2], some (trR (geB w0.heap.size) (oPt 30 (oPr (oRd (eInt .i64)) (oPr (oSl 70 (oRd E_impl_TokenCount)) (oSl 55 (oPr (oRd (eInt .i64)) (oSl 9 (oRd eStr))))))) x4 []), false, fun A => .any⟩ :: ⟨_, true, [], none, true, fun A => .raw (.bool false)⟩ :: []) (by kernel_rfl) (by kernel_rfl) (Wf.mk' (by kernel_rfl) (UAll.cons ust_any (UAll.cons ust_any (UAll.cons ust_raw (UAll.nil)))) (by kernel_rfl) (by kernel_rfl)) hO hA ?_ ?_
      · exact
          OblsR.cons (OblR.tookS 1 _ _ rfl rfl rfl rfl rfl fun A' R' w' ho hd u S hok hown hav hin hop hds => by have a0 : R' 8 = u8 := (ho.old 8 rfl).trans h8; exact took_loadT hown.2 (a0.trans (hin _ rfl).1.symm) hav hown.1 Try.isAgg30 Try.sizeOf30) <|
          OblsR.cons (OblR.tookM 0 [2] _ rfl rfl rfl rfl fun A' R' w' ho hd ρ σ hok hav hin hop hds hdd => by have a0 : R' 6 = u2 := (ho.old 6 rfl).trans h6; have k1 := hok 0 (.head _) _ rfl; have e0 := (hin 0 (.head _) _ rfl).1; rw [e0] at k1 ⊢; exact took_put2 rfl (tr_root k1.2.2).ptr (hok 2 (.tail _ (.head _)) _ rfl).2.2.1 (hop 2 (.tail _ (.head _)) _ _ rfl rfl rfl rfl).symm a0 hav hdd k1.2.1 (hok 2 (.tail _ (.head _)) _ rfl).2.1 Try.sizeOf30 (fun _ _ _ h => h)) <|
          OblsR.cons (OblR.plain rfl rfl rfl rfl fun A' R' w' ho hd => by exact of_assign rfl) <|
          OblsR.nil
      intro done ρ σ A R w hdn hI
      replace h6 : R 6 = u2 := (hI.reg rfl).trans h6
      have z31 := hI.inivR 0 rfl
      have z32 := (hI.opnR hdn 3 1 rfl rfl rfl rfl rfl).trans z31
      obtain ⟨S33, eS_u2⟩ : ∃ S, σ 3 = S := ⟨_, rfl⟩
      have h7 : R 7 = .bool false := hI.fact hdn (i := 2) rfl rfl rfl
      replace hAA := hI.low' hAA hA0 (hO.ge (⟨fun _ h => h, ⟨fun _ h => h, trivial⟩⟩))
      replace hF : Fr w0 w := hF.tr hI.ch (hO.ge (⟨fun _ h => h, ⟨fun _ h => h, trivial⟩⟩))
      replace hO : IniOK [⟨u2, S33, trR (geB w0.heap.size) (oPt 30 (oPr (oRd (eInt .i64)) (oPr (oSl 70 (oRd E_impl_TokenCount)) (oSl 55 (oPr (oRd (eInt .i64)) (oSl 9 (oRd eStr))))))) x4 []⟩] A w := hI.left hdn [(3, ⟨u2, S33, trR (geB w0.heap.size) (oPt 30 (oPr (oRd (eInt .i64)) (oPr (oSl 70 (oRd E_impl_TokenCount)) (oSl 55 (oPr (oRd (eInt .i64)) (oSl 9 (oRd eStr))))))) x4 []⟩)] ⟨rfl, rfl, z32, eS_u2, rfl, trivial⟩
      replace hA := hI.avok
      clear hI
      refine HT.ret ?_
      obtain rfl := Option.some.inj hr
      obtain ⟨v_6, S_6, e_6, hO⟩ := hO.unbox 0 rfl h6 Try.isAgg30 Try.sizeOf30
      obtain ⟨A1, hA1, hG1⟩ := GPost.of hO hA hAA (fun k hk => .inl (hO.ge (⟨fun _ h => h, trivial⟩) k hk)) (hF.ch (fun _ => False))
      exact ⟨.inr rfl, [v_6, R 7], ⟨e_6, ⟨rfl, trivial⟩⟩, v_6, S_6, A1, hG1, ⟨_, _, rfl, rfl, h7⟩⟩
    · have hr := cnd_f c30 hr
      refine HT.skip ?_
      refine HT.seq ?_
      obtain ⟨h34, p_h34⟩ := (((((tr_root (hO.own 1 _ rfl).2).ptr).snd rfl).snd (padd_padd _ _ _))).open1 rfl
      replace hO : IniOK [⟨u2, S3, trR (geB w0.heap.size) (oPt 30 (oPr (oRd (eInt .i64)) (oPr (oSl 70 (oRd E_impl_TokenCount)) (oSl 55 (oPr (oRd (eInt .i64)) (oSl 9 (oRd eStr))))))) ((0 : Int), (([] : List T_impl_TokenCount), ([] : List T_impl_IndexedSet))) []⟩, ⟨u8, S10, trR (geB w0.heap.size) (oPt 30 (oPr (oRd (eInt .i64)) (oPr (oSl 70 (oRd E_impl_TokenCount)) (oSl 55 (oPr (oRd (eInt .i64)) (oSl 9 (oRd eStr))))))) x4 [((padd u8 2), [h34])]⟩] A w := hO.repin 1 rfl (trP.pin p_h34)
      obtain ⟨x36, q37, hr⟩ := cl_some hr
      obtain ⟨e38, hr⟩ := ck_some hr
      obtain ⟨e39, hr⟩ := ck_some hr
      refine HT.drawR [⟨u2, S3, trR (geB w0.heap.size) (oPt 30 (oPr (oRd (eInt .i64)) (oPr (oSl 70 (oRd E_impl_TokenCount)) (oSl 55 (oPr (oRd (eInt .i64)) (oSl 9 (oRd eStr))))))) ((0 : Int), (([] : List T_impl_TokenCount), ([] : List T_impl_IndexedSet))) []⟩, ⟨u8, S10, trR (geB w0.heap.size) (oPt 30 (oPr (oRd (eInt .i64)) (oPr (oSl 70 (oRd E_impl_TokenCount)) (oSl 55 (oPr (oRd (eInt .i64)) (oSl 9 (oRd eStr))))))) x4 [((padd u8 2), [h34])]⟩] (⟨_, true, [], none, true, fun A => .raw (padd u8 2)⟩ :: ⟨_, true, [], none, true, fun A => .raw h34⟩ :: ⟨_, true, [], none, true, fun A => .raw (.int .i64 x28.1)⟩ :: ⟨_, true, [], none, true, fun A => .raw (.int .i64 p1)⟩ :: ⟨_, true, [], none, true, fun A => .raw v2⟩ :: ⟨_, true, [], some (.vec w0.heap.size 9 eStr x36), true, fun A => .any⟩ :: ⟨_, true, [7], some (trR (geB w0.heap.size) (oPr (oRd (eInt .i64)) (oSl 9 (oRd eStr))) (p1, x36) []), true, fun A => .any⟩ :: ⟨_, true, [8], some (trR (geB w0.heap.size) (oSl 55 (oPr (oRd (eInt .i64)) (oSl 9 (oRd eStr)))) ([(p1, x36)] : List T_impl_IndexedSet) []), true, fun A => .any⟩ :: ⟨_, true, [1, 9], some (.gen (geB w0.heap.size) (pdP (oSl 55 (oPr (oRd (eInt .i64)) (oSl 9 (oRd eStr)))) (padd u8 2) (fun z A w S => (trP (oPt 30 (oPr (oRd (eInt .i64)) (oPr (oSl 70 (oRd E_impl_TokenCount)) (oSl 55 (oPr (oRd (eInt .i64)) (oSl 9 (oRd eStr))))))) (x4.1, x4.2.1, z) []).P A w S u8) (x4.2.2.take x28.1.toNat ++ (p1, x36) :: x4.2.2.drop x28.1.toNat))), true, fun A => .any⟩ :: ⟨_, true, [], none, true, fun A => .raw (padd u8 2)⟩ :: ⟨_, true, [10], some (.gen (geB w0.heap.size) (fixP u8 (trP (oPt 30 (oPr (oRd (eInt .i64)) (oPr (oSl 70 (oRd E_impl_TokenCount)) (oSl 55 (oPr (oRd (eInt .i64)) (oSl 9 (oRd eStr))))))) (x4.1, x4.2.1, (x4.2.2.take x28.1.toNat ++ (p1, x36) :: x4.2.2.drop x28.1.toNat)) []))), false, fun A => .any⟩ :: []) (by kernel_rfl) (by kernel_rfl) (by kernel_rfl) (Wf.mk' (by kernel_rfl) (UAll.cons ust_raw (UAll.cons ust_raw (UAll.cons ust_raw (UAll.cons ust_raw (UAll.cons ust_raw (UAll.cons ust_any (UAll.cons ust_any (UAll.cons ust_any (UAll.cons ust_any (UAll.cons ust_raw (UAll.cons ust_any (UAll.nil)))))))))))) (by kernel_rfl) (by kernel_rfl)) hO hA ?_ ?_
      · exact
          OblsR.cons (OblR.plain rfl rfl rfl rfl fun A' R' w' ho hd => by have a0 : R' 8 = u8 := (ho.old 8 rfl).trans h8; exact of_fieldAddr_tr ((tr_root (hO.own 1 _ rfl).2).ptr).ad a0 ff_30_2 Try.sizeOf28 (by decide) rfl) <|
          OblsR.cons (OblR.plain rfl rfl rfl rfl fun A' R' w' ho hd => by have a0 : R' 41 = (padd u8 2) := hd 0 _ _ _ rfl rfl rfl rfl rfl; exact of_load_pin ((ho.rdo 1 _ rfl rfl).2.2 _ (.head _)) a0 Try.isAgg28 Try.sizeOf28) <|
          OblsR.cons (OblR.plain rfl rfl rfl rfl fun A' R' w' ho hd => by have a0 : R' 9 = .int .i64 x28.1 := (ho.old 9 rfl).trans h9; exact of_move a0) <|
          OblsR.cons (OblR.plain rfl rfl rfl rfl fun A' R' w' ho hd => by have a0 : R' 1 = .int .i64 p1 := (ho.old 1 rfl).trans h1; exact of_move a0) <|
          OblsR.cons (OblR.plain rfl rfl rfl rfl fun A' R' w' ho hd => by have a0 : R' 2 = v2 := (ho.old 2 rfl).trans h2; exact of_move a0) <|
          OblsR.cons (OblR.made _ rfl rfl rfl rfl fun A' R' w' ho hd => by have a0 : R' 45 = v2 := hd 0 _ _ _ rfl rfl rfl rfl rfl; have ra0 := (f_v2.stp ho.stp).eq a0; exact made_call Try.call40 (M_slices_Clone_string_string_ok (q37 rfl) ho.av ra0) (Nat.le_trans hF.size ho.ch.size)) <|
          OblsR.cons (OblR.tookS 7 _ _ rfl rfl rfl rfl rfl fun A' R' w' ho hd u S hok hown hav hin hop hds => by have a0 : R' 44 = .int .i64 p1 := hd 0 _ _ _ rfl rfl rfl rfl rfl; obtain ⟨gc, ge, go⟩ := own_of_vec' hok hown; obtain ⟨ga, gn, gk, rfl⟩ := own_sl_cell go; have gx : R' 46 = .slice ga gn gk := ((hop _ _ rfl rfl rfl rfl).symm).trans ge; exact took_valT (v := .agg #[.int .i64 p1, .slice ga gn gk]) (by simp [execOp, Instr.build, evalR, a0, gx, underlying, Try.underlying55, Try.zeroValue55, Try.sizeOf3, Try.sizeOf37, go_sem, Instr.fill]) ⟨⟨_, rfl, own_prR (own_rd rep1_int) go⟩, fun q hq => by cases hq⟩ hav (vec_ge hok hown)) <|
          OblsR.cons (OblR.tookS 8 _ _ rfl rfl rfl rfl rfl fun A' R' w' ho hd u S hok hown hav hin hop hds => by exact took_buildT hown.2 (hop _ _ rfl rfl rfl rfl).symm hav hown.1 (fun k hk => Nat.le_trans (Nat.le_trans hF.size ho.ch.size) hk) Try.underlying28 Try.sizeOf55 Try.zeroValue55 (by decide)) <|
          OblsR.cons (OblR.tookM 1 [9] _ rfl rfl rfl rfl fun A' R' w' ho hd ρ σ hok hav hin hop hds hdd => by have a0 : R' 42 = h34 := hd 0 _ _ _ rfl rfl rfl rfl rfl; have a1 : R' 43 = .int .i64 x28.1 := hd 1 _ _ _ rfl rfl rfl rfl rfl; have k1 := hok 1 (.head _) _ rfl; have e0 := (hin 1 (.head _) _ rfl).1; rw [e0] at k1 ⊢; exact took_insPT rfl ((((tr_root k1.2.2).ptr).snd rfl).snd (padd_padd _ _ _)) (k1.2.2.2 _ (.head _)) a0 (trP.nopin (hok 9 (.tail _ (.head _)) _ rfl).2.2) a1 (hop 9 (.tail _ (.head _)) _ _ rfl rfl rfl rfl).symm hav hdd k1.2.1 (hok 9 (.tail _ (.head _)) _ rfl).2.1 (fun k hk => Nat.le_trans (Nat.le_trans hF.size ho.ch.size) hk) (fun k hk => SP.lt _ k1.2.2 hk) rfl e38 e39) <|
          OblsR.cons (OblR.plain rfl rfl rfl rfl fun A' R' w' ho hd => by have a0 : R' 8 = u8 := (ho.old 8 rfl).trans h8; exact of_fieldAddr_tr ((tr_root (hO.own 1 _ rfl).2).ptr).ad a0 ff_30_2 Try.sizeOf28 (by decide) rfl) <|
          OblsR.cons (OblR.tookS 10 _ _ rfl rfl rfl rfl rfl fun A' R' w' ho hd u S hok hown hav hin hop hds => by have a0 : R' 50 = (padd u8 2) := hd 0 _ _ _ rfl rfl rfl rfl rfl; exact took_putP hown.2 (hop _ _ rfl rfl rfl rfl).symm a0 hav hown.1 Try.sizeOf28 (fun _ _ _ h => h)) <|
          OblsR.nil
      intro done ρ σ A R w hdn hI
      replace h6 : R 6 = u2 := (hI.reg rfl).trans h6
      replace h8 : R 8 = u8 := (hI.reg rfl).trans h8
      have z40 := hI.inivR 0 rfl
      obtain ⟨u41, e_u41⟩ : ∃ u, ρ 12 = u := ⟨_, rfl⟩
      have eS_u2 := hI.inisR 0 rfl
      obtain ⟨S42, eS_u8⟩ : ∃ S, σ 12 = S := ⟨_, rfl⟩
      replace hAA := hI.low' hAA hA0 (hO.ge (⟨fun _ h => h, ⟨fun _ h => h, trivial⟩⟩))
      replace hF : Fr w0 w := hF.tr hI.ch (hO.ge (⟨fun _ h => h, ⟨fun _ h => h, trivial⟩⟩))
      replace hO : IniOK [⟨u2, S3, trR (geB w0.heap.size) (oPt 30 (oPr (oRd (eInt .i64)) (oPr (oSl 70 (oRd E_impl_TokenCount)) (oSl 55 (oPr (oRd (eInt .i64)) (oSl 9 (oRd eStr))))))) ((0 : Int), (([] : List T_impl_TokenCount), ([] : List T_impl_IndexedSet))) []⟩, ⟨u41, S42, .gen (geB w0.heap.size) (fixP u8 (trP (oPt 30 (oPr (oRd (eInt .i64)) (oPr (oSl 70 (oRd E_impl_TokenCount)) (oSl 55 (oPr (oRd (eInt .i64)) (oSl 9 (oRd eStr))))))) (x4.1, x4.2.1, (x4.2.2.take x28.1.toNat ++ (p1, x36) :: x4.2.2.drop x28.1.toNat)) []))⟩] A w := hI.left hdn [(0, ⟨u2, S3, trR (geB w0.heap.size) (oPt 30 (oPr (oRd (eInt .i64)) (oPr (oSl 70 (oRd E_impl_TokenCount)) (oSl 55 (oPr (oRd (eInt .i64)) (oSl 9 (oRd eStr))))))) ((0 : Int), (([] : List T_impl_TokenCount), ([] : List T_impl_IndexedSet))) []⟩), (12, ⟨u41, S42, .gen (geB w0.heap.size) (fixP u8 (trP (oPt 30 (oPr (oRd (eInt .i64)) (oPr (oSl 70 (oRd E_impl_TokenCount)) (oSl 55 (oPr (oRd (eInt .i64)) (oSl 9 (oRd eStr))))))) (x4.1, x4.2.1, (x4.2.2.take x28.1.toNat ++ (p1, x36) :: x4.2.2.drop x28.1.toNat)) []))⟩)] ⟨rfl, rfl, z40, eS_u2, rfl, ⟨rfl, rfl, e_u41, eS_u8, rfl, trivial⟩⟩
      replace hA := hI.avok
      clear hI
      replace hO : IniOK [⟨u2, S3, trR (geB w0.heap.size) (oPt 30 (oPr (oRd (eInt .i64)) (oPr (oSl 70 (oRd E_impl_TokenCount)) (oSl 55 (oPr (oRd (eInt .i64)) (oSl 9 (oRd eStr))))))) ((0 : Int), (([] : List T_impl_TokenCount), ([] : List T_impl_IndexedSet))) []⟩, ⟨u8, S42, trR (geB w0.heap.size) (oPt 30 (oPr (oRd (eInt .i64)) (oPr (oSl 70 (oRd E_impl_TokenCount)) (oSl 55 (oPr (oRd (eInt .i64)) (oSl 9 (oRd eStr))))))) (x4.1, x4.2.1, (x4.2.2.take x28.1.toNat ++ (p1, x36) :: x4.2.2.drop x28.1.toNat)) []⟩] A w := hO.refix 1 rfl
      refine HT.seq ?_
      refine HT.textR [⟨u2, S3, trR (geB w0.heap.size) (oPt 30 (oPr (oRd (eInt .i64)) (oPr (oSl 70 (oRd E_impl_TokenCount)) (oSl 55 (oPr (oRd (eInt .i64)) (oSl 9 (oRd eStr))))))) ((0 : Int), (([] : List T_impl_TokenCount), ([] : List T_impl_IndexedSet))) []⟩, ⟨u8, S42, trR (geB w0.heap.size) (oPt 30 (oPr (oRd (eInt .i64)) (oPr (oSl 70 (oRd E_impl_TokenCount)) (oSl 55 (oPr (oRd (eInt .i64)) (oSl 9 (oRd eStr))))))) (x4.1, x4.2.1, (x4.2.2.take x28.1.toNat ++ (p1, x36) :: x4.2.2.drop x28.1.toNat)) []⟩] (⟨_, true, [1], some (trR (geB w0.heap.size) (oPr (oRd (eInt .i64)) (oPr (oSl 70 (oRd E_impl_TokenCount)) (oSl 55 (oPr (oRd (eInt .i64)) (oSl 9 (oRd eStr)))))) (x4.1, x4.2.1, (x4.2.2.take x28.1.toNat ++ (p1, x36) :: x4.2.2.drop x28.1.toNat)) []), true, fun A => .any⟩ :: ⟨_, true, [0, 2], some (trR (geB w0.heap.size) (oPt 30 (oPr (oRd (eInt .i64)) (oPr (oSl 70 (oRd E_impl_TokenCount)) (oSl 55 (oPr (oRd (eInt .i64)) (oSl 9 (oRd eStr))))))) (x4.1, x4.2.1, (x4.2.2.take x28.1.toNat ++ (p1, x36) :: x4.2.2.drop x28.1.toNat)) []), false, fun A => .any⟩ :: ⟨_, true, [], none, true, fun A => .raw (.bool true)⟩ :: []) (by kernel_rfl) (by kernel_rfl) (Wf.mk' (by kernel_rfl) (UAll.cons ust_any (UAll.cons ust_any (UAll.cons ust_raw (UAll.nil)))) (by kernel_rfl) (by kernel_rfl)) hO hA ?_ ?_
      · exact
          OblsR.cons (OblR.tookS 1 _ _ rfl rfl rfl rfl rfl fun A' R' w' ho hd u S hok hown hav hin hop hds => by have a0 : R' 8 = u8 := (ho.old 8 rfl).trans h8; exact took_loadT hown.2 (a0.trans (hin _ rfl).1.symm) hav hown.1 Try.isAgg30 Try.sizeOf30) <|
          OblsR.cons (OblR.tookM 0 [2] _ rfl rfl rfl rfl fun A' R' w' ho hd ρ σ hok hav hin hop hds hdd => by have a0 : R' 6 = u2 := (ho.old 6 rfl).trans h6; have k1 := hok 0 (.head _) _ rfl; have e0 := (hin 0 (.head _) _ rfl).1; rw [e0] at k1 ⊢; exact took_put2 rfl (tr_root k1.2.2).ptr (hok 2 (.tail _ (.head _)) _ rfl).2.2.1 (hop 2 (.tail _ (.head _)) _ _ rfl rfl rfl rfl).symm a0 hav hdd k1.2.1 (hok 2 (.tail _ (.head _)) _ rfl).2.1 Try.sizeOf30 (fun _ _ _ h => h)) <|
          OblsR.cons (OblR.plain rfl rfl rfl rfl fun A' R' w' ho hd => by exact of_assign rfl) <|
          OblsR.nil
      intro done ρ σ A R w hdn hI
      replace h6 : R 6 = u2 := (hI.reg rfl).trans h6
      have z43 := hI.inivR 0 rfl
      have z44 := (hI.opnR hdn 3 1 rfl rfl rfl rfl rfl).trans z43
      obtain ⟨S45, eS_u2⟩ : ∃ S, σ 3 = S := ⟨_, rfl⟩
      have h7 : R 7 = .bool true := hI.fact hdn (i := 2) rfl rfl rfl
      replace hAA := hI.low' hAA hA0 (hO.ge (⟨fun _ h => h, ⟨fun _ h => h, trivial⟩⟩))
      replace hF : Fr w0 w := hF.tr hI.ch (hO.ge (⟨fun _ h => h, ⟨fun _ h => h, trivial⟩⟩))
      replace hO : IniOK [⟨u2, S45, trR (geB w0.heap.size) (oPt 30 (oPr (oRd (eInt .i64)) (oPr (oSl 70 (oRd E_impl_TokenCount)) (oSl 55 (oPr (oRd (eInt .i64)) (oSl 9 (oRd eStr))))))) (x4.1, x4.2.1, (x4.2.2.take x28.1.toNat ++ (p1, x36) :: x4.2.2.drop x28.1.toNat)) []⟩] A w := hI.left hdn [(3, ⟨u2, S45, trR (geB w0.heap.size) (oPt 30 (oPr (oRd (eInt .i64)) (oPr (oSl 70 (oRd E_impl_TokenCount)) (oSl 55 (oPr (oRd (eInt .i64)) (oSl 9 (oRd eStr))))))) (x4.1, x4.2.1, (x4.2.2.take x28.1.toNat ++ (p1, x36) :: x4.2.2.drop x28.1.toNat)) []⟩)] ⟨rfl, rfl, z44, eS_u2, rfl, trivial⟩
      replace hA := hI.avok
      clear hI
      refine HT.ret ?_
      obtain rfl := Option.some.inj hr
      obtain ⟨v_6, S_6, e_6, hO⟩ := hO.unbox 0 rfl h6 Try.isAgg30 Try.sizeOf30
      obtain ⟨A1, hA1, hG1⟩ := GPost.of hO hA hAA (fun k hk => .inl (hO.ge (⟨fun _ h => h, trivial⟩) k hk)) (hF.ch (fun _ => False))
      exact ⟨.inr rfl, [v_6, R 7], ⟨e_6, ⟨rfl, trivial⟩⟩, v_6, S_6, A1, hG1, ⟨_, _, rfl, rfl, h7⟩⟩
theorem M_impl_InsertSet_okR {fu : Nat} {A0 : Av} {p0 : T_impl_SetIndex} {p1 : Int} {p2 : List (List UInt8)} {r : T_impl_SetIndex × Bool} (hr : M_impl_InsertSet fu p0 p1 p2 = some r) {w : World} {v0 : Value} {v1 : Value} {v2 : Value} (hA : AvOK A0 w) (h0 : Rep E_impl_SetIndex A0 w v0 p0) (h1 : v1 = .int .i64 p1) (h2 : Rep (eSl eStr) A0 w v2 p2) :
    Calls Try.prog 15 #[v0, v1, v2] w fun e w' => ∃ v, e = .returned v ∧ ((∃ a b, v = .tuple #[a, b] ∧ Rep E_impl_SetIndex A0 w' a r.1 ∧ b = .bool r.2) ∧ Fr w w') := by
  refine Calls.mono (M_impl_InsertSet_ok hr hA h0 h1 h2) ?_
  rintro e w' ⟨v, he, u0, S0, A1, hG, a0, a1, hv, e0, e1⟩
  exact ⟨v, he, ⟨a0, a1, hv, (tr_rep (hG.ini.own 0 _ rfl).2 hG.low (fun k o hk ha => Nat.not_lt.2 ((hG.ini.own 0 _ rfl).1 k hk) (hA k o ha))).eq e0, e1⟩, hG.ch.no⟩
def M_laws_FnExactInsertSet (fu : Nat) (p0 : T_laws_SetIndex) (p1 : Int) (p2 : List (List UInt8)) : Option Bool :=
  cl true (M_laws_szSetIndex fu p0 (1048576 : Int)) fun x2 =>
  bif (decide (x2 < (0 : Int))) then (
    some true
  ) else (
    cl true (M_laws_szStringS fu p2 x2) fun x5 =>
    bif (decide (x5 < (0 : Int))) then (
      some true
    ) else (
      cl true (M_laws_toSetIndex fu p0) fun x8 =>
      cl true (M_laws_toStringS fu p2) fun x10 =>
      cl true (M_spec_InsertSet fu x8 p1 x10) fun x12 =>
      cl true (M_laws_toSetIndex fu p0) fun x17 =>
      cl true (M_laws_toStringS fu p2) fun x24 =>
      cl true (M_impl_InsertSet fu x17 p1 x24) fun x31 =>
      cl true (M_laws_eqSetIndex fu x31.1 x12.1) fun x44 =>
      bd ((!x44) || (x31.2 != x12.2)) fun x46 =>
      bif x46 then (
        some false
      ) else (
        cl true (M_laws_toSetIndex fu p0) fun x51 =>
        cl true (M_laws_eqSetIndex fu x17 x51) fun x53 =>
        bif (!x53) then (
          some false
        ) else (
          cl true (M_laws_toStringS fu p2) fun x56 =>
          cl true (M_laws_eqStringS fu x24 x56) fun x58 =>
          bif (!x58) then (
            some false
          ) else (
            cl true (M_laws_markSetIndex fu x17 (1 : Int)) fun x63 =>
            cl true (M_laws_markStringS fu x24 x63.1) fun x72 =>
            cl (true && ((decide (x72.1 < (0 : Int))) == false)) (M_laws_eqSetIndex fu x31.1 x12.1) fun x81 =>
            bd ((decide (x72.1 < (0 : Int))) || (!x81)) fun x83 =>
            bd (x83 || (x31.2 != x12.2)) fun x85 =>
            bif x85 then (
              some false
            ) else (
              cl true (M_laws_markSetIndex fu x31.1 (1 : Int)) fun x90 =>
              cl true (M_laws_heldSetIndex fu x90.2 (1 : Int)) fun x99 =>
              bif (decide (x99 < (0 : Int))) then (
                some false
              ) else (
                bif (x99 != x90.1) then (
                  some false
                ) else (
                  cl true (M_laws_toSetIndex fu p0) fun x103 =>
                  cl true (M_laws_toStringS fu p2) fun x105 =>
                  cl true (M_impl_InsertSet fu x103 p1 x105) fun x107 =>
                  cl true (M_laws_eqSetIndex fu x107.1 x12.1) fun x114 =>
                  bd ((!x114) || (x107.2 != x12.2)) fun x116 =>
                  bif x116 then (
                    some false
                  ) else (
                    cl true (M_laws_heldSetIndex fu x90.2 (1 : Int)) fun x119 =>
                    bif (decide (x119 < (0 : Int))) then (
                      some false
                    ) else (
                      bif (x119 != x90.1) then (
                        some false
                      ) else (
                        some true
                      )
                    )
                  )
                )
              )
            )
          )
        )
      )
    )
  )
set_option maxRecDepth 100000 in
set_option maxHeartbeats 4000000 in
theorem M_laws_FnExactInsertSet_ok {fu : Nat} {A0 : Av} {p0 : T_laws_SetIndex} {p1 : Int} {p2 : List (List UInt8)} {r : Bool} (hr : M_laws_FnExactInsertSet fu p0 p1 p2 = some r) {w : World} {v0 : Value} {v1 : Value} {v2 : Value} (hA : AvOK A0 w) (h0 : Rep E_laws_SetIndex A0 w v0 p0) (h1 : v1 = .int .i64 p1) (h2 : Rep (eSl eStr) A0 w v2 p2) :
    Calls Try.prog 4 #[v0, v1, v2] w fun e w' => ∃ v, e = .returned v ∧ (v = .bool r ∧ Fr w w') := by
  unfold M_laws_FnExactInsertSet at hr
  obtain ⟨w0, hw0⟩ : ∃ w0, w0 = w := ⟨_, rfl⟩
  have hF : Fr w0 w := hw0 ▸ Fr.refl _
  have hA0 : ∀ b o, A0 b o → b < w0.heap.size := fun b o h => hw0 ▸ hA b o h
  have hA00 : AvOK A0 w0 := hA0
  rw [show Fr w = Fr w0 from hw0 ▸ rfl]
  clear hw0
  obtain ⟨A, hAe⟩ : ∃ A, A = A0 := ⟨_, rfl⟩
  have hAA : ∀ b o, A0 b o → A b o := fun b o h => hAe ▸ h
  replace hA : AvOK A w := hAe ▸ hA
  have hO : IniOK [] A w := IniOK.nil
  refine calls_of_HT2 [.tmp 6] Try.func4 Try.ntmps4 (by decide) rfl rfl (Nat.le_of_ble_eq_true rfl) ?_
  intro R hR
  have f_v0 : Rep E_laws_SetIndex A w v0 p0 := hAe ▸ h0
  replace h0 : R 0 = v0 := hR 0 _ rfl
  replace h1 : R 1 = .int .i64 p1 := (hR 1 _ rfl).trans h1
  have f_v2 : Rep (eSl eStr) A w v2 p2 := hAe ▸ h2
  replace h2 : R 2 = v2 := hR 2 _ rfl
  clear hR hAe
  refine HT.seq ?_
  refine HT.textR [] (⟨_, true, [], some (.box w0.heap.size 25 E_laws_SetIndex p0), true, fun A => .any⟩ :: ⟨_, true, [], none, true, fun A => .raw (.bool false)⟩ :: []) (by kernel_rfl) (by kernel_rfl) (Wf.mk' (by kernel_rfl) (UAll.cons ust_any (UAll.cons ust_raw (UAll.nil))) (by kernel_rfl) (by kernel_rfl)) hO hA ?_ ?_
  · exact
      OblsR.cons (OblR.made _ rfl rfl rfl rfl fun A' R' w' ho hd => by have a0 : R' 0 = v0 := (ho.old 0 rfl).trans h0; have ra0 := (f_v0.stp ho.stp).eq a0; exact made_box ra0 (Nat.le_trans hF.size ho.ch.size)) <|
      OblsR.cons (OblR.plain rfl rfl rfl rfl fun A' R' w' ho hd => by exact of_assign rfl) <|
      OblsR.nil
  intro done ρ σ A R w hdn hI
  replace h1 : R 1 = .int .i64 p1 := (hI.reg rfl).trans h1
  replace h2 : R 2 = v2 := (hI.reg rfl).trans h2
  obtain ⟨b3_0, e_b3_0⟩ := hI.boxv hdn 0 rfl rfl
  have h3 : R 3 = (.pointer (some ⟨b3_0, 0, none⟩)) := (hI.opvR hdn 0 0 rfl rfl rfl rfl rfl).symm.trans e_b3_0
  replace f_v2 := f_v2.stp hI.stp
  replace hAA := hI.low' hAA hA0 (hO.ge (trivial))
  replace hF : Fr w0 w := hF.tr hI.ch (hO.ge (trivial))
  replace hO : IniOK [ob (.pointer (some ⟨b3_0, 0, none⟩)) (.box w0.heap.size 25 E_laws_SetIndex p0)] A w := hI.left hdn [(0, ob (.pointer (some ⟨b3_0, 0, none⟩)) (.box w0.heap.size 25 E_laws_SetIndex p0))] ⟨rfl, rfl, e_b3_0, rfl, rfl, trivial⟩
  replace hA := hI.avok
  clear hI
  refine HT.seq ?_
  refine HT.text (l := ⟨_, true, .raw (.int .i64 (1048576 : Int))⟩ :: []) (tl := []) (by kernel_rfl) (by kernel_rfl) (by kernel_rfl) ?_ ?_
  · exact
      Obls.cons (Obl.plain rfl rfl fun R' w' hw hs hd => by exact of_assign rfl) <|
      Obls.nil
  intro R w hw hs hF'
  replace h1 : R 1 = .int .i64 p1 := (hs 1 rfl).trans h1
  replace h2 : R 2 = v2 := (hs 2 rfl).trans h2
  replace h3 : R 3 = (.pointer (some ⟨b3_0, 0, none⟩)) := (hs 3 rfl).trans h3
  have h7 : R 7 = .int .i64 (1048576 : Int) := hF' 0 _ _ rfl rfl rfl
  replace f_v2 := f_v2.fr hw
  replace hO := hO.fr hw
  replace hA := hA.fr hw.size
  replace hF := hF.trans hw
  clear hs hF' hw
  refine seqR_nil ?_
  refine HT.seq ?_
  obtain ⟨x2, q3, hr⟩ := cl_some hr
  refine HT.text (l := ⟨_, true, .rep E_laws_SetIndex A p0⟩ :: ⟨_, true, .raw (.int .i64 (1048576 : Int))⟩ :: ⟨_, true, .raw (.int .i64 x2)⟩ :: ⟨_, true, .raw (.int .i64 x2)⟩ :: []) (tl := []) (by kernel_rfl) (by kernel_rfl) (by kernel_rfl) ?_ ?_
  · exact
      Obls.cons (Obl.plain rfl rfl fun R' w' hw hs hd => by have a0 : R' 3 = (.pointer (some ⟨b3_0, 0, none⟩)) := (hs 3 rfl).trans h3; exact (of_load_box ((hO.fr hw).ok 0 _ rfl).1 a0 (Fld.id _) rfl Try.isAgg25 Try.sizeOf25)) <|
      Obls.cons (Obl.plain rfl rfl fun R' w' hw hs hd => by have a0 : R' 7 = .int .i64 (1048576 : Int) := (hs 7 rfl).trans h7; exact of_move a0) <|
      Obls.cons (Obl.plain rfl rfl fun R' w' hw hs hd => by have a0 : Rep E_laws_SetIndex A w' (R' 19) p0 := hd 0 _ _ _ rfl rfl rfl rfl rfl; have a1 : R' 20 = .int .i64 (1048576 : Int) := hd 1 _ _ _ rfl rfl rfl rfl rfl; exact of_call Try.call5 (M_laws_szSetIndex_ok (q3 rfl) (hA.fr hw.size) a0 a1)) <|
      Obls.cons (Obl.plain rfl rfl fun R' w' hw hs hd => by have a0 : R' 21 = .int .i64 x2 := hd 0 _ _ _ rfl rfl rfl rfl rfl; exact of_assign a0) <|
      Obls.nil
  intro R w hw hs hF'
  replace h1 : R 1 = .int .i64 p1 := (hs 1 rfl).trans h1
  replace h2 : R 2 = v2 := (hs 2 rfl).trans h2
  replace h3 : R 3 = (.pointer (some ⟨b3_0, 0, none⟩)) := (hs 3 rfl).trans h3
  have h7 : R 7 = .int .i64 x2 := hF' 3 _ _ rfl rfl rfl
  replace f_v2 := f_v2.fr hw
  replace hO := hO.fr hw
  replace hA := hA.fr hw.size
  replace hF := hF.trans hw
  clear hs hF' hw
  refine seqR_nil ?_
  refine HT.seq ?_
  refine HT.seq ?_
  refine HT.text (l := ⟨_, true, .raw (.int .i64 x2)⟩ :: ⟨_, true, .raw (.bool (decide (x2 < (0 : Int))))⟩ :: []) (tl := []) (by kernel_rfl) (by kernel_rfl) (by kernel_rfl) ?_ ?_
  · exact
      Obls.cons (Obl.plain rfl rfl fun R' w' hw hs hd => by have a0 : R' 7 = .int .i64 x2 := (hs 7 rfl).trans h7; exact of_move a0) <|
      Obls.cons (Obl.plain rfl rfl fun R' w' hw hs hd => by have a0 : R' 22 = .int .i64 x2 := hd 0 _ _ _ rfl rfl rfl rfl rfl; exact of_lss a0 rfl) <|
      Obls.nil
  intro R w hw hs hF'
  replace h1 : R 1 = .int .i64 p1 := (hs 1 rfl).trans h1
  replace h2 : R 2 = v2 := (hs 2 rfl).trans h2
  replace h3 : R 3 = (.pointer (some ⟨b3_0, 0, none⟩)) := (hs 3 rfl).trans h3
  replace h7 : R 7 = .int .i64 x2 := (hs 7 rfl).trans h7
  have h23 : R 23 = .bool (decide (x2 < (0 : Int))) := hF' 1 _ _ rfl rfl rfl
  replace f_v2 := f_v2.fr hw
  replace hO := hO.fr hw
  replace hA := hA.fr hw.size
  replace hF := hF.trans hw
  clear hs hF' hw
  refine seqR_nil ?_
  refine HT.cond (decide (x2 < (0 : Int))) h23 (fun c4 => ?_) (fun c4 => ?_)
  · have hr := cnd_t c4 hr
    refine HT.seq ?_
    refine HT.text (l := ⟨_, true, .raw (.bool true)⟩ :: []) (tl := []) (by kernel_rfl) (by kernel_rfl) (by kernel_rfl) ?_ ?_
    · exact
        Obls.cons (Obl.plain rfl rfl fun R' w' hw hs hd => by exact of_assign rfl) <|
        Obls.nil
    intro R w hw hs hF'
    have h6 : R 6 = .bool true := hF' 0 _ _ rfl rfl rfl
    replace hO := hO.fr hw
    replace hO : IniOK [] A w := hO.sub [] trivial
    replace hA := hA.fr hw.size
    replace hF := hF.trans hw
    clear hs hF' hw
    refine seqR_nil ?_
    refine HT.ret ?_
    obtain rfl := Option.some.inj hr
    exact ⟨.inr rfl, [R 6], ⟨rfl, trivial⟩, h6, hF⟩
  · have hr := cnd_f c4 hr
    refine HT.skip ?_
    refine HT.seq ?_
    obtain ⟨x5, q6, hr⟩ := cl_some hr
    refine HT.text (l := ⟨_, true, .raw v2⟩ :: ⟨_, true, .raw (.int .i64 x2)⟩ :: ⟨_, true, .raw (.int .i64 x5)⟩ :: ⟨_, true, .raw (.int .i64 x5)⟩ :: []) (tl := []) (by kernel_rfl) (by kernel_rfl) (by kernel_rfl) ?_ ?_
    · exact
        Obls.cons (Obl.plain rfl rfl fun R' w' hw hs hd => by have a0 : R' 2 = v2 := (hs 2 rfl).trans h2; exact of_move a0) <|
        Obls.cons (Obl.plain rfl rfl fun R' w' hw hs hd => by have a0 : R' 7 = .int .i64 x2 := (hs 7 rfl).trans h7; exact of_move a0) <|
        Obls.cons (Obl.plain rfl rfl fun R' w' hw hs hd => by have a0 : R' 24 = v2 := hd 0 _ _ _ rfl rfl rfl rfl rfl; have ra0 := (f_v2.fr hw).eq a0; have a1 : R' 25 = .int .i64 x2 := hd 1 _ _ _ rfl rfl rfl rfl rfl; exact of_call Try.call12 (M_laws_szStringS_ok (q6 rfl) (hA.fr hw.size) ra0 a1)) <|
        Obls.cons (Obl.plain rfl rfl fun R' w' hw hs hd => by have a0 : R' 26 = .int .i64 x5 := hd 0 _ _ _ rfl rfl rfl rfl rfl; exact of_assign a0) <|
        Obls.nil
    intro R w hw hs hF'
    replace h1 : R 1 = .int .i64 p1 := (hs 1 rfl).trans h1
    replace h2 : R 2 = v2 := (hs 2 rfl).trans h2
    replace h3 : R 3 = (.pointer (some ⟨b3_0, 0, none⟩)) := (hs 3 rfl).trans h3
    have h7 : R 7 = .int .i64 x5 := hF' 3 _ _ rfl rfl rfl
    replace f_v2 := f_v2.fr hw
    replace hO := hO.fr hw
    replace hA := hA.fr hw.size
    replace hF := hF.trans hw
    clear hs hF' hw
    refine seqR_nil ?_
    refine HT.seq ?_
    refine HT.seq ?_
    refine HT.text (l := ⟨_, true, .raw (.int .i64 x5)⟩ :: ⟨_, true, .raw (.bool (decide (x5 < (0 : Int))))⟩ :: []) (tl := []) (by kernel_rfl) (by kernel_rfl) (by kernel_rfl) ?_ ?_
    · exact
        Obls.cons (Obl.plain rfl rfl fun R' w' hw hs hd => by have a0 : R' 7 = .int .i64 x5 := (hs 7 rfl).trans h7; exact of_move a0) <|
        Obls.cons (Obl.plain rfl rfl fun R' w' hw hs hd => by have a0 : R' 27 = .int .i64 x5 := hd 0 _ _ _ rfl rfl rfl rfl rfl; exact of_lss a0 rfl) <|
        Obls.nil
    intro R w hw hs hF'
    replace h1 : R 1 = .int .i64 p1 := (hs 1 rfl).trans h1
    replace h2 : R 2 = v2 := (hs 2 rfl).trans h2
    replace h3 : R 3 = (.pointer (some ⟨b3_0, 0, none⟩)) := (hs 3 rfl).trans h3
    have h28 : R 28 = .bool (decide (x5 < (0 : Int))) := hF' 1 _ _ rfl rfl rfl
    replace f_v2 := f_v2.fr hw
    replace hO := hO.fr hw
    replace hA := hA.fr hw.size
    replace hF := hF.trans hw
    clear hs hF' hw
    refine seqR_nil ?_
    refine HT.cond (decide (x5 < (0 : Int))) h28 (fun c7 => ?_) (fun c7 => ?_)
    · have hr := cnd_t c7 hr
      refine HT.seq ?_
      refine HT.text (l := ⟨_, true, .raw (.bool true)⟩ :: []) (tl := []) (by kernel_rfl) (by kernel_rfl) (by kernel_rfl) ?_ ?_
      · exact
          Obls.cons (Obl.plain rfl rfl fun R' w' hw hs hd => by exact of_assign rfl) <|
          Obls.nil
      intro R w hw hs hF'
      have h6 : R 6 = .bool true := hF' 0 _ _ rfl rfl rfl
      replace hO := hO.fr hw
      replace hO : IniOK [] A w := hO.sub [] trivial
      replace hA := hA.fr hw.size
      replace hF := hF.trans hw
      clear hs hF' hw
      refine seqR_nil ?_
      refine HT.ret ?_
      obtain rfl := Option.some.inj hr
      exact ⟨.inr rfl, [R 6], ⟨rfl, trivial⟩, h6, hF⟩
    · have hr := cnd_f c7 hr
      refine HT.skip ?_
      refine HT.seq ?_
      obtain ⟨x8, q9, hr⟩ := cl_some hr
      obtain ⟨x10, q11, hr⟩ := cl_some hr
      obtain ⟨x12, q13, hr⟩ := cl_some hr
      refine HT.textR [ob (.pointer (some ⟨b3_0, 0, none⟩)) (.box w0.heap.size 25 E_laws_SetIndex p0)] (⟨_, true, [], none, true, fun A => .rep E_laws_SetIndex A p0⟩ :: ⟨_, true, [], none, true, fun A => .rep E_impl_SetIndex A x8⟩ :: ⟨_, true, [], none, true, fun A => .raw (.int .i64 p1)⟩ :: ⟨_, true, [], none, true, fun A => .raw v2⟩ :: ⟨_, true, [], none, true, fun A => .rep (eSl eStr) A x10⟩ :: ⟨_, true, [], none, true, fun A => .tup2 (.rep E_impl_SetIndex A x12.1) (.raw (.bool x12.2))⟩ :: ⟨_, true, [], none, true, fun A => .tup2 (.rep E_impl_SetIndex A x12.1) (.raw (.bool x12.2))⟩ :: ⟨_, true, [], none, true, fun A => .rep E_impl_SetIndex A x12.1⟩ :: ⟨_, true, [], none, true, fun A => .raw (.bool x12.2)⟩ :: ⟨_, true, [], some (.box w0.heap.size 30 E_impl_SetIndex ((0 : Int), (([] : List T_impl_TokenCount), ([] : List T_impl_IndexedSet)))), true, fun A => .any⟩ :: ⟨_, true, [10], some (.box w0.heap.size 30 E_impl_SetIndex x12.1), false, fun A => .any⟩ :: ⟨_, true, [], none, true, fun A => .raw (.bool x12.2)⟩ :: []) (by kernel_rfl) (by kernel_rfl) (Wf.mk' (by kernel_rfl) (UAll.cons ust_rep (UAll.cons ust_rep (UAll.cons ust_raw (UAll.cons ust_raw (UAll.cons ust_rep (UAll.cons (ust_tup2 ust_rep ust_raw) (UAll.cons (ust_tup2 ust_rep ust_raw) (UAll.cons ust_rep (UAll.cons ust_raw (UAll.cons ust_any (UAll.cons ust_any (UAll.cons ust_raw (UAll.nil))))))))))))) (by kernel_rfl) (by kernel_rfl)) hO hA ?_ ?_
      · exact
          OblsR.cons (OblR.plain rfl rfl rfl rfl fun A' R' w' ho hd => by have a0 : R' 3 = (.pointer (some ⟨b3_0, 0, none⟩)) := (ho.old 3 rfl).trans h3; exact (of_load_box (ho.rd 0 _ rfl rfl) a0 (Fld.id _) rfl Try.isAgg25 Try.sizeOf25)) <|
          OblsR.cons (OblR.plain rfl rfl rfl rfl fun A' R' w' ho hd => by have a0 : Rep E_laws_SetIndex A' w' (R' 30) p0 := hd 0 _ _ _ rfl rfl rfl rfl rfl; exact of_call Try.call7 (M_laws_toSetIndex_okR (q9 rfl) ho.av a0)) <|
          OblsR.cons (OblR.plain rfl rfl rfl rfl fun A' R' w' ho hd => by have a0 : R' 1 = .int .i64 p1 := (ho.old 1 rfl).trans h1; exact of_move a0) <|
          OblsR.cons (OblR.plain rfl rfl rfl rfl fun A' R' w' ho hd => by have a0 : R' 2 = v2 := (ho.old 2 rfl).trans h2; exact of_move a0) <|
          OblsR.cons (OblR.plain rfl rfl rfl rfl fun A' R' w' ho hd => by have a0 : R' 33 = v2 := hd 0 _ _ _ rfl rfl rfl rfl rfl; have ra0 := (f_v2.stp ho.stp).eq a0; exact of_call Try.call14 (M_laws_toStringS_okR (q11 rfl) ho.av ra0)) <|
          OblsR.cons (OblR.plain rfl rfl rfl rfl fun A' R' w' ho hd => by have a0 : Rep E_impl_SetIndex A' w' (R' 31) x8 := hd 0 _ _ _ rfl rfl rfl rfl rfl; have a1 : R' 32 = .int .i64 p1 := hd 1 _ _ _ rfl rfl rfl rfl rfl; have a2 : Rep (eSl eStr) A' w' (R' 34) x10 := hd 2 _ _ _ rfl rfl rfl rfl rfl; exact of_call Try.call13 (M_spec_InsertSet_ok (q13 rfl) ho.av a0 a1 a2)) <|
          OblsR.cons (OblR.plain rfl rfl rfl rfl fun A' R' w' ho hd => by have a0 : Fact.ok (.tup2 (.rep E_impl_SetIndex A' x12.1) (.raw (.bool x12.2))) (R' 35) w' := hd 0 _ _ _ rfl rfl rfl rfl rfl; exact of_move a0) <|
          OblsR.cons (OblR.plain rfl rfl rfl rfl fun A' R' w' ho hd => by have a0 : Fact.ok (.tup2 (.rep E_impl_SetIndex A' x12.1) (.raw (.bool x12.2))) (R' 29) w' := hd 0 _ _ _ rfl rfl rfl rfl rfl; exact of_extract2_0 a0) <|
          OblsR.cons (OblR.plain rfl rfl rfl rfl fun A' R' w' ho hd => by have a0 : Fact.ok (.tup2 (.rep E_impl_SetIndex A' x12.1) (.raw (.bool x12.2))) (R' 29) w' := hd 0 _ _ _ rfl rfl rfl rfl rfl; exact of_extract2_1 a0) <|
          OblsR.cons (OblR.made _ rfl rfl rfl rfl fun A' R' w' ho hd => by exact made_alloc Try.zeroValue30 (fun A w => rep_pr rep1_int (rep_pr rep1_nil rep1_nil)) (Nat.le_trans hF.size ho.ch.size)) <|
          OblsR.cons (OblR.took 10 _ _ rfl rfl rfl rfl rfl fun A' R' w' ho hd u hok hav hin hop hds => by have a1 : Rep E_impl_SetIndex A' w' (R' 36) x12.1 := hd 1 _ _ _ rfl rfl rfl rfl rfl; obtain ⟨b, hb, hB', hbx⟩ := hok; have hop' := hop _ _ rfl rfl rfl rfl; exact took_store a1 (hop'.symm.trans hb) hb ⟨b, hb, hB', hbx⟩ hav (FldS.id _) Try.sizeOf30 rfl) <|
          OblsR.cons (OblR.plain rfl rfl rfl rfl fun A' R' w' ho hd => by have a0 : R' 37 = .bool x12.2 := hd 0 _ _ _ rfl rfl rfl rfl rfl; exact of_assign a0) <|
          OblsR.nil
      intro done ρ σ A R w hdn hI
      replace h1 : R 1 = .int .i64 p1 := (hI.reg rfl).trans h1
      replace h2 : R 2 = v2 := (hI.reg rfl).trans h2
      replace h3 : R 3 = (.pointer (some ⟨b3_0, 0, none⟩)) := (hI.reg rfl).trans h3
      have z14 := hI.inivR 0 rfl
      obtain ⟨b8_14, e_b8_14⟩ := hI.boxv hdn 11 rfl rfl
      have z16 := (hI.opnR hdn 11 10 rfl rfl rfl rfl rfl).symm.trans e_b8_14
      have h8 : R 8 = (.pointer (some ⟨b8_14, 0, none⟩)) := (hI.opvR hdn 10 9 rfl rfl rfl rfl rfl).symm.trans z16
      have h9 : R 9 = .bool x12.2 := hI.fact hdn (i := 11) rfl rfl rfl
      replace f_v2 := f_v2.stp hI.stp
      replace hAA := hI.low' hAA hA0 (hO.ge (⟨rfl, trivial⟩))
      replace hF : Fr w0 w := hF.tr hI.ch (hO.ge (⟨rfl, trivial⟩))
      replace hO : IniOK [ob (.pointer (some ⟨b3_0, 0, none⟩)) (.box w0.heap.size 25 E_laws_SetIndex p0), ob (.pointer (some ⟨b8_14, 0, none⟩)) (.box w0.heap.size 30 E_impl_SetIndex x12.1)] A w := hI.left hdn [(0, ob (.pointer (some ⟨b3_0, 0, none⟩)) (.box w0.heap.size 25 E_laws_SetIndex p0)), (11, ob (.pointer (some ⟨b8_14, 0, none⟩)) (.box w0.heap.size 30 E_impl_SetIndex x12.1))] ⟨rfl, rfl, z14, rfl, rfl, ⟨rfl, rfl, e_b8_14, rfl, rfl, trivial⟩⟩
      replace hA := hI.avok
      clear hI
      refine HT.seq ?_
      obtain ⟨x17, q18, hr⟩ := cl_some hr
      refine HT.textR [ob (.pointer (some ⟨b3_0, 0, none⟩)) (.box w0.heap.size 25 E_laws_SetIndex p0), ob (.pointer (some ⟨b8_14, 0, none⟩)) (.box w0.heap.size 30 E_impl_SetIndex x12.1)] (⟨_, true, [], none, true, fun A => .rep E_laws_SetIndex A p0⟩ :: ⟨_, true, [], some (trR (geB w0.heap.size) (oPr (oRd (eInt .i64)) (oPr (oSl 70 (oRd E_impl_TokenCount)) (oSl 55 (oPr (oRd (eInt .i64)) (oSl 9 (oRd eStr)))))) x17 []), true, fun A => .any⟩ :: ⟨_, true, [], some (trR (geB w0.heap.size) (oPt 30 (oPr (oRd (eInt .i64)) (oPr (oSl 70 (oRd E_impl_TokenCount)) (oSl 55 (oPr (oRd (eInt .i64)) (oSl 9 (oRd eStr))))))) ((0 : Int), (([] : List T_impl_TokenCount), ([] : List T_impl_IndexedSet))) []), true, fun A => .any⟩ :: ⟨_, true, [4, 3], some (trR (geB w0.heap.size) (oPt 30 (oPr (oRd (eInt .i64)) (oPr (oSl 70 (oRd E_impl_TokenCount)) (oSl 55 (oPr (oRd (eInt .i64)) (oSl 9 (oRd eStr))))))) x17 []), false, fun A => .any⟩ :: []) (by kernel_rfl) (by kernel_rfl) (Wf.mk' (by kernel_rfl) (UAll.cons ust_rep (UAll.cons ust_any (UAll.cons ust_any (UAll.cons ust_any (UAll.nil))))) (by kernel_rfl) (by kernel_rfl)) hO hA ?_ ?_
      · exact
          OblsR.cons (OblR.plain rfl rfl rfl rfl fun A' R' w' ho hd => by have a0 : R' 3 = (.pointer (some ⟨b3_0, 0, none⟩)) := (ho.old 3 rfl).trans h3; exact (of_load_box (ho.rd 0 _ rfl rfl) a0 (Fld.id _) rfl Try.isAgg25 Try.sizeOf25)) <|
          OblsR.cons (OblR.madeS _ rfl rfl rfl rfl fun A' R' w' ho hd => by have a0 : Rep E_laws_SetIndex A' w' (R' 38) p0 := hd 0 _ _ _ rfl rfl rfl rfl rfl; exact made_callT Try.call7 (M_laws_toSetIndex_ok (q18 rfl) ho.av a0) (fun k hk => Nat.le_trans (Nat.le_trans hF.size ho.ch.size) hk)) <|
          OblsR.cons (OblR.madeS _ rfl rfl rfl rfl fun A' R' w' ho hd => by exact made_allocT Try.zeroValue30 (fun A w => own_pr (own_rd rep1_int) (own_pr own_nil own_nil)) (fun k hk => Nat.le_trans (Nat.le_trans hF.size ho.ch.size) hk)) <|
          OblsR.cons (OblR.tookM 4 [3] _ rfl rfl rfl rfl fun A' R' w' ho hd ρ σ hok hav hin hop hds hdd => by have k1 := hok 4 (.head _) _ rfl; exact took_put2 rfl (tr_root k1.2.2).ptr (hok 3 (.tail _ (.head _)) _ rfl).2.2.1 (hop 3 (.tail _ (.head _)) _ _ rfl rfl rfl rfl).symm (hop 4 (.head _) _ _ rfl rfl rfl rfl).symm hav hdd k1.2.1 (hok 3 (.tail _ (.head _)) _ rfl).2.1 Try.sizeOf30 (fun _ _ _ h => h)) <|
          OblsR.nil
      intro done ρ σ A R w hdn hI
      replace h1 : R 1 = .int .i64 p1 := (hI.reg rfl).trans h1
      replace h2 : R 2 = v2 := (hI.reg rfl).trans h2
      replace h3 : R 3 = (.pointer (some ⟨b3_0, 0, none⟩)) := (hI.reg rfl).trans h3
      replace h8 : R 8 = (.pointer (some ⟨b8_14, 0, none⟩)) := (hI.reg rfl).trans h8
      replace h9 : R 9 = .bool x12.2 := (hI.reg rfl).trans h9
      have z19 := hI.inivR 0 rfl
      have z20 := hI.inivR 1 rfl
      obtain ⟨u21, e_u21⟩ : ∃ u, ρ 5 = u := ⟨_, rfl⟩
      have z22 := (hI.opnR hdn 5 3 rfl rfl rfl rfl rfl).symm.trans e_u21
      have h10 : R 10 = u21 := (hI.opvR hdn 4 2 rfl rfl rfl rfl rfl).symm.trans z22
      obtain ⟨S23, eS_u21⟩ : ∃ S, σ 5 = S := ⟨_, rfl⟩
      replace f_v2 := f_v2.stp hI.stp
      replace hAA := hI.low' hAA hA0 (hO.ge (⟨rfl, ⟨rfl, trivial⟩⟩))
      replace hF : Fr w0 w := hF.tr hI.ch (hO.ge (⟨rfl, ⟨rfl, trivial⟩⟩))
      replace hO : IniOK [ob (.pointer (some ⟨b3_0, 0, none⟩)) (.box w0.heap.size 25 E_laws_SetIndex p0), ob (.pointer (some ⟨b8_14, 0, none⟩)) (.box w0.heap.size 30 E_impl_SetIndex x12.1), ⟨u21, S23, trR (geB w0.heap.size) (oPt 30 (oPr (oRd (eInt .i64)) (oPr (oSl 70 (oRd E_impl_TokenCount)) (oSl 55 (oPr (oRd (eInt .i64)) (oSl 9 (oRd eStr))))))) x17 []⟩] A w := hI.left hdn [(0, ob (.pointer (some ⟨b3_0, 0, none⟩)) (.box w0.heap.size 25 E_laws_SetIndex p0)), (1, ob (.pointer (some ⟨b8_14, 0, none⟩)) (.box w0.heap.size 30 E_impl_SetIndex x12.1)), (5, ⟨u21, S23, trR (geB w0.heap.size) (oPt 30 (oPr (oRd (eInt .i64)) (oPr (oSl 70 (oRd E_impl_TokenCount)) (oSl 55 (oPr (oRd (eInt .i64)) (oSl 9 (oRd eStr))))))) x17 []⟩)] ⟨rfl, rfl, z19, rfl, rfl, ⟨rfl, rfl, z20, rfl, rfl, ⟨rfl, rfl, e_u21, eS_u21, rfl, trivial⟩⟩⟩
      replace hA := hI.avok
      clear hI
      refine HT.seq ?_
      obtain ⟨x24, q25, hr⟩ := cl_some hr
      refine HT.textR [ob (.pointer (some ⟨b3_0, 0, none⟩)) (.box w0.heap.size 25 E_laws_SetIndex p0), ob (.pointer (some ⟨b8_14, 0, none⟩)) (.box w0.heap.size 30 E_impl_SetIndex x12.1), ⟨u21, S23, trR (geB w0.heap.size) (oPt 30 (oPr (oRd (eInt .i64)) (oPr (oSl 70 (oRd E_impl_TokenCount)) (oSl 55 (oPr (oRd (eInt .i64)) (oSl 9 (oRd eStr))))))) x17 []⟩] (⟨_, true, [], none, true, fun A => .raw v2⟩ :: ⟨_, true, [], some (.vec w0.heap.size 9 eStr x24), true, fun A => .any⟩ :: ⟨_, true, [4], some (.vec w0.heap.size 9 eStr x24), true, fun A => .any⟩ :: []) (by kernel_rfl) (by kernel_rfl) (Wf.mk' (by kernel_rfl) (UAll.cons ust_raw (UAll.cons ust_any (UAll.cons ust_any (UAll.nil)))) (by kernel_rfl) (by kernel_rfl)) hO hA ?_ ?_
      · exact
          OblsR.cons (OblR.plain rfl rfl rfl rfl fun A' R' w' ho hd => by have a0 : R' 2 = v2 := (ho.old 2 rfl).trans h2; exact of_move a0) <|
          OblsR.cons (OblR.made _ rfl rfl rfl rfl fun A' R' w' ho hd => by have a0 : R' 40 = v2 := hd 0 _ _ _ rfl rfl rfl rfl rfl; have ra0 := (f_v2.stp ho.stp).eq a0; exact made_call Try.call14 (M_laws_toStringS_ok (q25 rfl) ho.av ra0) (Nat.le_trans hF.size ho.ch.size)) <|
          OblsR.cons (OblR.took 4 _ _ rfl rfl rfl rfl rfl fun A' R' w' ho hd u hok hav hin hop hds => by exact took_assign (hop _ _ rfl rfl rfl rfl).symm hok hav) <|
          OblsR.nil
      intro done ρ σ A R w hdn hI
      replace h1 : R 1 = .int .i64 p1 := (hI.reg rfl).trans h1
      replace h2 : R 2 = v2 := (hI.reg rfl).trans h2
      replace h3 : R 3 = (.pointer (some ⟨b3_0, 0, none⟩)) := (hI.reg rfl).trans h3
      replace h8 : R 8 = (.pointer (some ⟨b8_14, 0, none⟩)) := (hI.reg rfl).trans h8
      replace h9 : R 9 = .bool x12.2 := (hI.reg rfl).trans h9
      replace h10 : R 10 = u21 := (hI.reg rfl).trans h10
      have z26 := hI.inivR 0 rfl
      have z27 := hI.inivR 1 rfl
      have z28 := hI.inivR 2 rfl
      obtain ⟨u29, e_u29⟩ : ∃ u, ρ 5 = u := ⟨_, rfl⟩
      have h11 : R 11 = u29 := (hI.opvR hdn 5 2 rfl rfl rfl rfl rfl).symm.trans e_u29
      have eS_u21 := hI.inisR 2 rfl
      replace f_v2 := f_v2.stp hI.stp
      replace hAA := hI.low' hAA hA0 (hO.ge (⟨rfl, ⟨rfl, ⟨fun _ h => h, trivial⟩⟩⟩))
      replace hF : Fr w0 w := hF.tr hI.ch (hO.ge (⟨rfl, ⟨rfl, ⟨fun _ h => h, trivial⟩⟩⟩))
      replace hO : IniOK [ob (.pointer (some ⟨b3_0, 0, none⟩)) (.box w0.heap.size 25 E_laws_SetIndex p0), ob (.pointer (some ⟨b8_14, 0, none⟩)) (.box w0.heap.size 30 E_impl_SetIndex x12.1), ⟨u21, S23, trR (geB w0.heap.size) (oPt 30 (oPr (oRd (eInt .i64)) (oPr (oSl 70 (oRd E_impl_TokenCount)) (oSl 55 (oPr (oRd (eInt .i64)) (oSl 9 (oRd eStr))))))) x17 []⟩, ob u29 (.vec w0.heap.size 9 eStr x24)] A w := hI.left hdn [(0, ob (.pointer (some ⟨b3_0, 0, none⟩)) (.box w0.heap.size 25 E_laws_SetIndex p0)), (1, ob (.pointer (some ⟨b8_14, 0, none⟩)) (.box w0.heap.size 30 E_impl_SetIndex x12.1)), (2, ⟨u21, S23, trR (geB w0.heap.size) (oPt 30 (oPr (oRd (eInt .i64)) (oPr (oSl 70 (oRd E_impl_TokenCount)) (oSl 55 (oPr (oRd (eInt .i64)) (oSl 9 (oRd eStr))))))) x17 []⟩), (5, ob u29 (.vec w0.heap.size 9 eStr x24))] ⟨rfl, rfl, z26, rfl, rfl, ⟨rfl, rfl, z27, rfl, rfl, ⟨rfl, rfl, z28, eS_u21, rfl, ⟨rfl, rfl, e_u29, rfl, rfl, trivial⟩⟩⟩⟩
      replace hA := hI.avok
      clear hI
      refine HT.seq ?_
      refine SG.of ?_
      refine SG.op 43 rfl rfl rfl rfl (of_loadA0 (A0 := A0) (hO.own 2 _ rfl).2 h10 hAA (fun k o hk ha => Nat.not_lt.2 ((hO.own 2 _ rfl).1 k hk) (hA0 k o ha)) Try.isAgg30 Try.sizeOf30) ?_
      rintro u30 w1 ⟨hw_, f_u30⟩ R hs hd
      obtain rfl : w = w1 := hw_.symm
      have hst : Stp A A w w := (Fr.refl w).stp A
      replace h1 : R 1 = .int .i64 p1 := (hs 1 rfl).trans h1
      replace h2 : R 2 = v2 := (hs 2 rfl).trans h2
      replace h3 : R 3 = (.pointer (some ⟨b3_0, 0, none⟩)) := (hs 3 rfl).trans h3
      replace h8 : R 8 = (.pointer (some ⟨b8_14, 0, none⟩)) := (hs 8 rfl).trans h8
      replace h9 : R 9 = .bool x12.2 := (hs 9 rfl).trans h9
      replace h10 : R 10 = u21 := (hs 10 rfl).trans h10
      replace h11 : R 11 = u29 := (hs 11 rfl).trans h11
      replace f_v2 := f_v2.stp hst
      have h43 : R 43 = u30 := hd
      clear hs hd hst
      refine SG.op 44 rfl rfl rfl rfl (of_move (f := .raw (.int .i64 p1)) (h1 : evalR R (.tmp 1) = _)) ?_
      rintro v_ w ⟨hv_, hfr⟩ R hs hd
      have hst := hfr.stp A
      replace hF : Fr w0 w := hF.trans hfr
      replace hA := hA.fr hfr.size
      replace hO := hO.fr hfr
      replace h1 : R 1 = .int .i64 p1 := (hs 1 rfl).trans h1
      replace h2 : R 2 = v2 := (hs 2 rfl).trans h2
      replace h3 : R 3 = (.pointer (some ⟨b3_0, 0, none⟩)) := (hs 3 rfl).trans h3
      replace h8 : R 8 = (.pointer (some ⟨b8_14, 0, none⟩)) := (hs 8 rfl).trans h8
      replace h9 : R 9 = .bool x12.2 := (hs 9 rfl).trans h9
      replace h10 : R 10 = u21 := (hs 10 rfl).trans h10
      replace h11 : R 11 = u29 := (hs 11 rfl).trans h11
      replace f_v2 := f_v2.stp hst
      replace h43 : R 43 = u30 := (hs 43 rfl).trans h43
      replace f_u30 := f_u30.fr hfr
      have h44 : R 44 = .int .i64 p1 := hd.trans hv_
      clear hs hd hst hfr hv_
      refine SG.op 45 rfl rfl rfl rfl (of_move (f := .raw (u29)) (h11 : evalR R (.tmp 11) = _)) ?_
      rintro v_ w ⟨hv_, hfr⟩ R hs hd
      have hst := hfr.stp A
      replace hF : Fr w0 w := hF.trans hfr
      replace hA := hA.fr hfr.size
      replace hO := hO.fr hfr
      replace h1 : R 1 = .int .i64 p1 := (hs 1 rfl).trans h1
      replace h2 : R 2 = v2 := (hs 2 rfl).trans h2
      replace h3 : R 3 = (.pointer (some ⟨b3_0, 0, none⟩)) := (hs 3 rfl).trans h3
      replace h8 : R 8 = (.pointer (some ⟨b8_14, 0, none⟩)) := (hs 8 rfl).trans h8
      replace h9 : R 9 = .bool x12.2 := (hs 9 rfl).trans h9
      replace h10 : R 10 = u21 := (hs 10 rfl).trans h10
      replace h11 : R 11 = u29 := (hs 11 rfl).trans h11
      replace h44 : R 44 = .int .i64 p1 := (hs 44 rfl).trans h44
      replace f_v2 := f_v2.stp hst
      replace h43 : R 43 = u30 := (hs 43 rfl).trans h43
      replace f_u30 := f_u30.fr hfr
      have h45 : R 45 = u29 := hd.trans hv_
      clear hs hd hst hfr hv_
      obtain ⟨x31, q32, hr⟩ := cl_some hr
      have hFz : w0.heap.size ≤ w.heap.size := hF.size
      refine SG.op 46 rfl rfl rfl rfl (call_run Try.call15 (M_impl_InsertSet_ok (q32 rfl) (hA00.fr hF.size) (f_u30.eq h43) h44 ((vec_rep (hO.ok 3 _ rfl).1 hAA hA0).eq h45))) ?_
      rintro v_ w ⟨u33, S34, A1, hG1, hv⟩ R hs hd
      obtain ⟨A, hA2, hO2, hst, hA3⟩ := GPost.next0P hO hA hG1 ⟨obpure_tr (pure_pr (pure_rd (fun _ _ _ _ _ h => h)) (pure_pr (pure_sl (pure_rd (fun _ _ _ _ _ h => h))) (pure_sl (pure_pr (pure_rd (fun _ _ _ _ _ h => h)) (pure_sl (pure_rd (fun _ _ _ _ _ h => h))))))), trivial⟩
      replace hO := hO2
      replace hA := hA3
      replace hAA : ∀ b o, A0 b o → A b o := fun b o h => hA2 b o (hAA b o h)
      replace hF : Fr w0 w := hF.trans hG1.ch.no
      replace hO := hO.reK (K' := geB w0.heap.size) 0 rfl (fun k hk => Nat.le_trans hFz hk)
      replace hO : IniOK [⟨u33, S34, trR (geB w0.heap.size) (oPr (oRd (eInt .i64)) (oPr (oSl 70 (oRd E_impl_TokenCount)) (oSl 55 (oPr (oRd (eInt .i64)) (oSl 9 (oRd eStr)))))) x31.1 []⟩, ob (.pointer (some ⟨b3_0, 0, none⟩)) (.box w0.heap.size 25 E_laws_SetIndex p0), ob (.pointer (some ⟨b8_14, 0, none⟩)) (.box w0.heap.size 30 E_impl_SetIndex x12.1), ⟨u21, S23, trR (geB w0.heap.size) (oPt 30 (oPr (oRd (eInt .i64)) (oPr (oSl 70 (oRd E_impl_TokenCount)) (oSl 55 (oPr (oRd (eInt .i64)) (oSl 9 (oRd eStr))))))) x17 []⟩, ob u29 (.vec w0.heap.size 9 eStr x24)] A w := hO
      replace h1 : R 1 = .int .i64 p1 := (hs 1 rfl).trans h1
      replace h2 : R 2 = v2 := (hs 2 rfl).trans h2
      replace h3 : R 3 = (.pointer (some ⟨b3_0, 0, none⟩)) := (hs 3 rfl).trans h3
      replace h8 : R 8 = (.pointer (some ⟨b8_14, 0, none⟩)) := (hs 8 rfl).trans h8
      replace h9 : R 9 = .bool x12.2 := (hs 9 rfl).trans h9
      replace h10 : R 10 = u21 := (hs 10 rfl).trans h10
      replace h11 : R 11 = u29 := (hs 11 rfl).trans h11
      replace h44 : R 44 = .int .i64 p1 := (hs 44 rfl).trans h44
      replace h45 : R 45 = u29 := (hs 45 rfl).trans h45
      replace f_v2 := f_v2.stp hst
      have h46 : Fact.ok (.tup2 (.raw u33) (.raw (.bool x31.2))) (R 46) w := hd ▸ hv
      clear hFz hG1 hv hs hd
      refine SG.textR [⟨u33, S34, trR (geB w0.heap.size) (oPr (oRd (eInt .i64)) (oPr (oSl 70 (oRd E_impl_TokenCount)) (oSl 55 (oPr (oRd (eInt .i64)) (oSl 9 (oRd eStr)))))) x31.1 []⟩, ob (.pointer (some ⟨b3_0, 0, none⟩)) (.box w0.heap.size 25 E_laws_SetIndex p0), ob (.pointer (some ⟨b8_14, 0, none⟩)) (.box w0.heap.size 30 E_impl_SetIndex x12.1), ⟨u21, S23, trR (geB w0.heap.size) (oPt 30 (oPr (oRd (eInt .i64)) (oPr (oSl 70 (oRd E_impl_TokenCount)) (oSl 55 (oPr (oRd (eInt .i64)) (oSl 9 (oRd eStr))))))) x17 []⟩, ob u29 (.vec w0.heap.size 9 eStr x24)] (⟨_, true, [], none, true, fun A => .any⟩ :: ⟨_, true, [], none, true, fun A => .raw (.int .i64 p1)⟩ :: ⟨_, true, [], none, true, fun A => .raw u29⟩ :: ⟨_, true, [], none, true, fun A => .tup2 (.raw u33) (.raw (.bool x31.2))⟩ :: ⟨_, true, [], none, true, fun A => .tup2 (.raw u33) (.raw (.bool x31.2))⟩ :: ⟨_, true, [], none, true, fun A => .raw u33⟩ :: ⟨_, true, [], none, true, fun A => .raw (.bool x31.2)⟩ :: ⟨_, true, [], some (trR (geB w0.heap.size) (oPt 30 (oPr (oRd (eInt .i64)) (oPr (oSl 70 (oRd E_impl_TokenCount)) (oSl 55 (oPr (oRd (eInt .i64)) (oSl 9 (oRd eStr))))))) ((0 : Int), (([] : List T_impl_TokenCount), ([] : List T_impl_IndexedSet))) []), true, fun A => .any⟩ :: ⟨_, true, [12, 0], some (trR (geB w0.heap.size) (oPt 30 (oPr (oRd (eInt .i64)) (oPr (oSl 70 (oRd E_impl_TokenCount)) (oSl 55 (oPr (oRd (eInt .i64)) (oSl 9 (oRd eStr))))))) x31.1 []), false, fun A => .any⟩ :: ⟨_, true, [], none, true, fun A => .raw (.bool x31.2)⟩ :: []) 10 rfl rfl rfl (by kernel_rfl) (by kernel_rfl) (Wf.mk' (by kernel_rfl) (UAll.cons ust_any (UAll.cons ust_raw (UAll.cons ust_raw (UAll.cons (ust_tup2 ust_raw ust_raw) (UAll.cons (ust_tup2 ust_raw ust_raw) (UAll.cons ust_raw (UAll.cons ust_raw (UAll.cons ust_any (UAll.cons ust_any (UAll.cons ust_raw (UAll.nil))))))))))) (by kernel_rfl) (by kernel_rfl)) hO hA (⟨⟨rfl, rfl, rfl, trivial⟩, ⟨⟨rfl, rfl, rfl, h44⟩, ⟨⟨rfl, rfl, rfl, h45⟩, ⟨⟨rfl, rfl, rfl, h46⟩, trivial⟩⟩⟩⟩) ?_ ?_
      · exact
          OblsR.cons (OblR.plain rfl rfl rfl rfl fun A' R' w' ho hd => by have a0 : Fact.ok (.tup2 (.raw u33) (.raw (.bool x31.2))) (R' 46) w' := hd 0 _ _ _ rfl rfl rfl rfl rfl; exact of_move a0) <|
          OblsR.cons (OblR.plain rfl rfl rfl rfl fun A' R' w' ho hd => by have a0 : Fact.ok (.tup2 (.raw u33) (.raw (.bool x31.2))) (R' 42) w' := hd 0 _ _ _ rfl rfl rfl rfl rfl; exact of_extract2_0 a0) <|
          OblsR.cons (OblR.plain rfl rfl rfl rfl fun A' R' w' ho hd => by have a0 : Fact.ok (.tup2 (.raw u33) (.raw (.bool x31.2))) (R' 42) w' := hd 0 _ _ _ rfl rfl rfl rfl rfl; exact of_extract2_1 a0) <|
          OblsR.cons (OblR.madeS _ rfl rfl rfl rfl fun A' R' w' ho hd => by exact made_allocT Try.zeroValue30 (fun A w => own_pr (own_rd rep1_int) (own_pr own_nil own_nil)) (fun k hk => Nat.le_trans (Nat.le_trans hF.size ho.ch.size) hk)) <|
          OblsR.cons (OblR.tookM 12 [0] _ rfl rfl rfl rfl fun A' R' w' ho hd ρ σ hok hav hin hop hds hdd => by have a1 : R' 47 = u33 := hd 1 _ _ _ rfl rfl rfl rfl rfl; have k1 := hok 12 (.head _) _ rfl; exact took_put2 rfl (tr_root k1.2.2).ptr (hok 0 (.tail _ (.head _)) _ rfl).2.2.1 (a1.trans (hin 0 (.tail _ (.head _)) _ rfl).1.symm) (hop 12 (.head _) _ _ rfl rfl rfl rfl).symm hav hdd k1.2.1 (hok 0 (.tail _ (.head _)) _ rfl).2.1 Try.sizeOf30 (fun _ _ _ h => h)) <|
          OblsR.cons (OblR.plain rfl rfl rfl rfl fun A' R' w' ho hd => by have a0 : R' 48 = .bool x31.2 := hd 0 _ _ _ rfl rfl rfl rfl rfl; exact of_assign a0) <|
          OblsR.nil
      intro done ρ σ A R w hdn hI
      replace h1 : R 1 = .int .i64 p1 := (hI.reg rfl).trans h1
      replace h2 : R 2 = v2 := (hI.reg rfl).trans h2
      replace h3 : R 3 = (.pointer (some ⟨b3_0, 0, none⟩)) := (hI.reg rfl).trans h3
      replace h8 : R 8 = (.pointer (some ⟨b8_14, 0, none⟩)) := (hI.reg rfl).trans h8
      replace h9 : R 9 = .bool x12.2 := (hI.reg rfl).trans h9
      replace h10 : R 10 = u21 := (hI.reg rfl).trans h10
      replace h11 : R 11 = u29 := (hI.reg rfl).trans h11
      have z35 := hI.inivR 1 rfl
      have z36 := hI.inivR 2 rfl
      have z37 := hI.inivR 3 rfl
      have z38 := hI.inivR 4 rfl
      obtain ⟨u39, e_u39⟩ : ∃ u, ρ 13 = u := ⟨_, rfl⟩
      have z40 := (hI.opnR hdn 13 8 rfl rfl rfl rfl rfl).symm.trans e_u39
      have h12 : R 12 = u39 := (hI.opvR hdn 12 7 rfl rfl rfl rfl rfl).symm.trans z40
      have eS_u21 := hI.inisR 3 rfl
      obtain ⟨S41, eS_u39⟩ : ∃ S, σ 13 = S := ⟨_, rfl⟩
      have h13 : R 13 = .bool x31.2 := hI.fact hdn (i := 9) rfl rfl rfl
      replace f_v2 := f_v2.stp hI.stp
      replace hAA := hI.low' hAA hA0 (hO.ge (⟨fun _ h => h, ⟨rfl, ⟨rfl, ⟨fun _ h => h, ⟨rfl, trivial⟩⟩⟩⟩⟩))
      replace hF : Fr w0 w := hF.tr hI.ch (hO.ge (⟨fun _ h => h, ⟨rfl, ⟨rfl, ⟨fun _ h => h, ⟨rfl, trivial⟩⟩⟩⟩⟩))
      replace hO : IniOK [ob (.pointer (some ⟨b3_0, 0, none⟩)) (.box w0.heap.size 25 E_laws_SetIndex p0), ob (.pointer (some ⟨b8_14, 0, none⟩)) (.box w0.heap.size 30 E_impl_SetIndex x12.1), ⟨u21, S23, trR (geB w0.heap.size) (oPt 30 (oPr (oRd (eInt .i64)) (oPr (oSl 70 (oRd E_impl_TokenCount)) (oSl 55 (oPr (oRd (eInt .i64)) (oSl 9 (oRd eStr))))))) x17 []⟩, ob u29 (.vec w0.heap.size 9 eStr x24), ⟨u39, S41, trR (geB w0.heap.size) (oPt 30 (oPr (oRd (eInt .i64)) (oPr (oSl 70 (oRd E_impl_TokenCount)) (oSl 55 (oPr (oRd (eInt .i64)) (oSl 9 (oRd eStr))))))) x31.1 []⟩] A w := hI.left hdn [(1, ob (.pointer (some ⟨b3_0, 0, none⟩)) (.box w0.heap.size 25 E_laws_SetIndex p0)), (2, ob (.pointer (some ⟨b8_14, 0, none⟩)) (.box w0.heap.size 30 E_impl_SetIndex x12.1)), (3, ⟨u21, S23, trR (geB w0.heap.size) (oPt 30 (oPr (oRd (eInt .i64)) (oPr (oSl 70 (oRd E_impl_TokenCount)) (oSl 55 (oPr (oRd (eInt .i64)) (oSl 9 (oRd eStr))))))) x17 []⟩), (4, ob u29 (.vec w0.heap.size 9 eStr x24)), (13, ⟨u39, S41, trR (geB w0.heap.size) (oPt 30 (oPr (oRd (eInt .i64)) (oPr (oSl 70 (oRd E_impl_TokenCount)) (oSl 55 (oPr (oRd (eInt .i64)) (oSl 9 (oRd eStr))))))) x31.1 []⟩)] ⟨rfl, rfl, z35, rfl, rfl, ⟨rfl, rfl, z36, rfl, rfl, ⟨rfl, rfl, z37, eS_u21, rfl, ⟨rfl, rfl, z38, rfl, rfl, ⟨rfl, rfl, e_u39, eS_u39, rfl, trivial⟩⟩⟩⟩⟩
      replace hA := hI.avok
      clear hI
      refine SG.fin rfl ?_
      refine HT.seq ?_
      refine HT.seq ?_
      obtain ⟨h42, l_h42, p_h42⟩ := ((tr_root (hO.own 4 _ rfl).2).ptr).open
      replace hO : IniOK [ob (.pointer (some ⟨b3_0, 0, none⟩)) (.box w0.heap.size 25 E_laws_SetIndex p0), ob (.pointer (some ⟨b8_14, 0, none⟩)) (.box w0.heap.size 30 E_impl_SetIndex x12.1), ⟨u21, S23, trR (geB w0.heap.size) (oPt 30 (oPr (oRd (eInt .i64)) (oPr (oSl 70 (oRd E_impl_TokenCount)) (oSl 55 (oPr (oRd (eInt .i64)) (oSl 9 (oRd eStr))))))) x17 []⟩, ob u29 (.vec w0.heap.size 9 eStr x24), ⟨u39, S41, trR (geB w0.heap.size) (oPt 30 (oPr (oRd (eInt .i64)) (oPr (oSl 70 (oRd E_impl_TokenCount)) (oSl 55 (oPr (oRd (eInt .i64)) (oSl 9 (oRd eStr))))))) x31.1 [(u39, h42)]⟩] A w := hO.repin 4 rfl (trP.pin p_h42)
      obtain ⟨x44, q45, hr⟩ := cl_some hr
      obtain ⟨x46, q47, hr⟩ := bd_some hr
      refine HT.text (l := ⟨_, true, .raw (Enc.val E_impl_SetIndex h42)⟩ :: ⟨_, true, .rep E_impl_SetIndex A x12.1⟩ :: ⟨_, true, .raw (.bool x44)⟩ :: ⟨_, true, .raw (.bool (!x44))⟩ :: ⟨_, true, .raw (.bool (!x44))⟩ :: ⟨_, (true && ((!x44) == false)), .raw (.bool x31.2)⟩ :: ⟨_, (true && ((!x44) == false)), .raw (.bool x12.2)⟩ :: ⟨_, (true && ((!x44) == false)), .raw (.bool (x31.2 != x12.2))⟩ :: ⟨_, true, .raw (.bool x46)⟩ :: []) (tl := []) (by kernel_rfl) (by kernel_rfl) (by kernel_rfl) ?_ ?_
      · exact
          Obls.cons (Obl.plain rfl rfl fun R' w' hw hs hd => by have a0 : R' 12 = u39 := (hs 12 rfl).trans h12; exact of_load_pinS (F := oPr (oRd (eInt .i64)) (oPr (oSl 70 (oRd E_impl_TokenCount)) (oSl 55 (oPr (oRd (eInt .i64)) (oSl 9 (oRd eStr)))))) (((hO.fr hw).own 4 _ rfl).2.2 _ (.head _)) l_h42 a0 Try.isAgg30 Try.sizeOf30) <|
          Obls.cons (Obl.plain rfl rfl fun R' w' hw hs hd => by have a0 : R' 8 = (.pointer (some ⟨b8_14, 0, none⟩)) := (hs 8 rfl).trans h8; exact (of_load_box ((hO.fr hw).ok 1 _ rfl).1 a0 (Fld.id _) rfl Try.isAgg30 Try.sizeOf30)) <|
          Obls.cons (Obl.plain rfl rfl fun R' w' hw hs hd => by have a0 : R' 49 = (Enc.val E_impl_SetIndex h42) := hd 0 _ _ _ rfl rfl rfl rfl rfl; have ra0 : Rep E_impl_SetIndex A0 w' (R' 49) _ := (vh_rep (((tr_root ((hO.fr hw).own 4 _ rfl).2).ptr).pinS (((hO.fr hw).own 4 _ rfl).2.2 _ (.head _)) l_h42) hAA (fun k o hk ha => Nat.not_lt.2 (((hO.fr hw).own 4 _ rfl).1 k hk) (hA0 k o ha))).eq a0; have a1 : Rep E_impl_SetIndex A w' (R' 50) x12.1 := hd 1 _ _ _ rfl rfl rfl rfl rfl; exact of_call Try.call9 (M_laws_eqSetIndex_ok (q45 rfl) (hA00.fr ((Nat.le_trans hF.size hw.size))) ra0 (a1.down hAA))) <|
          Obls.cons (Obl.plain rfl rfl fun R' w' hw hs hd => by have a0 : R' 51 = .bool x44 := hd 0 _ _ _ rfl rfl rfl rfl rfl; exact of_not a0) <|
          Obls.cons (Obl.plain rfl rfl fun R' w' hw hs hd => by have a0 : R' 52 = .bool (!x44) := hd 0 _ _ _ rfl rfl rfl rfl rfl; exact of_move a0) <|
          Obls.cons (Obl.grd 4 false _ _ _ rfl rfl rfl rfl rfl (by kernel_rfl) fun hg R' w' hw hs hd => by have a0 : R' 13 = .bool x31.2 := (hs 13 rfl).trans h13; exact of_move a0) <|
          Obls.cons (Obl.grd 4 false _ _ _ rfl rfl rfl rfl rfl (by kernel_rfl) fun hg R' w' hw hs hd => by have a0 : R' 9 = .bool x12.2 := (hs 9 rfl).trans h9; exact of_move a0) <|
          Obls.cons (Obl.grd 4 false _ _ _ rfl rfl rfl rfl rfl (by kernel_rfl) fun hg R' w' hw hs hd => by have a0 : R' 54 = .bool x31.2 := hd 0 _ _ _ rfl rfl rfl rfl hg; have a1 : R' 55 = .bool x12.2 := hd 1 _ _ _ rfl rfl rfl rfl hg; exact of_bneq Try.underlying4 a0 a1) <|
          Obls.cons (Obl.plain rfl rfl fun R' w' hw hs hd => by have a0 : R' 53 = .bool (!x44) := hd 0 _ _ _ rfl rfl rfl rfl rfl; exact of_pick (!x44) a0 (fun hc => by show _ = Value.bool x46; rw [q47, hc]; exact rfl) (fun hc => by have a2 : R' 56 = .bool (x31.2 != x12.2) := hd 1 _ _ _ rfl rfl rfl rfl (g_and rfl (beq_of hc)); show _ = Value.bool x46; rw [q47, hc]; exact a2)) <|
          Obls.nil
      intro R w hw hs hF'
      replace h1 : R 1 = .int .i64 p1 := (hs 1 rfl).trans h1
      replace h2 : R 2 = v2 := (hs 2 rfl).trans h2
      replace h3 : R 3 = (.pointer (some ⟨b3_0, 0, none⟩)) := (hs 3 rfl).trans h3
      replace h8 : R 8 = (.pointer (some ⟨b8_14, 0, none⟩)) := (hs 8 rfl).trans h8
      replace h9 : R 9 = .bool x12.2 := (hs 9 rfl).trans h9
      replace h10 : R 10 = u21 := (hs 10 rfl).trans h10
      replace h11 : R 11 = u29 := (hs 11 rfl).trans h11
      replace h12 : R 12 = u39 := (hs 12 rfl).trans h12
      replace h13 : R 13 = .bool x31.2 := (hs 13 rfl).trans h13
      have h57 : R 57 = .bool x46 := hF' 8 _ _ rfl rfl rfl
      replace f_v2 := f_v2.fr hw
      replace hO := hO.fr hw
      replace hA := hA.fr hw.size
      replace hF := hF.trans hw
      clear hs hF' hw
      refine seqR_nil ?_
      replace hO : IniOK [ob (.pointer (some ⟨b3_0, 0, none⟩)) (.box w0.heap.size 25 E_laws_SetIndex p0), ob (.pointer (some ⟨b8_14, 0, none⟩)) (.box w0.heap.size 30 E_impl_SetIndex x12.1), ⟨u21, S23, trR (geB w0.heap.size) (oPt 30 (oPr (oRd (eInt .i64)) (oPr (oSl 70 (oRd E_impl_TokenCount)) (oSl 55 (oPr (oRd (eInt .i64)) (oSl 9 (oRd eStr))))))) x17 []⟩, ob u29 (.vec w0.heap.size 9 eStr x24), ⟨u39, S41, trR (geB w0.heap.size) (oPt 30 (oPr (oRd (eInt .i64)) (oPr (oSl 70 (oRd E_impl_TokenCount)) (oSl 55 (oPr (oRd (eInt .i64)) (oSl 9 (oRd eStr))))))) x31.1 []⟩] A w := hO.repin 4 rfl trP.nopin
      refine HT.cond x46 h57 (fun c48 => ?_) (fun c48 => ?_)
      · have hr := cnd_t c48 hr
        refine HT.seq ?_
        refine HT.text (l := ⟨_, true, .raw (.bool false)⟩ :: []) (tl := []) (by kernel_rfl) (by kernel_rfl) (by kernel_rfl) ?_ ?_
        · exact
            Obls.cons (Obl.plain rfl rfl fun R' w' hw hs hd => by exact of_assign rfl) <|
            Obls.nil
        intro R w hw hs hF'
        have h6 : R 6 = .bool false := hF' 0 _ _ rfl rfl rfl
        replace hO := hO.fr hw
        replace hO : IniOK [] A w := hO.sub [] trivial
        replace hA := hA.fr hw.size
        replace hF := hF.trans hw
        clear hs hF' hw
        refine seqR_nil ?_
        refine HT.ret ?_
        obtain rfl := Option.some.inj hr
        exact ⟨.inr rfl, [R 6], ⟨rfl, trivial⟩, h6, hF⟩
      · have hr := cnd_f c48 hr
        refine HT.skip ?_
        refine HT.seq ?_
        refine HT.seq ?_
        obtain ⟨h49, l_h49, p_h49⟩ := ((tr_root (hO.own 2 _ rfl).2).ptr).open
        replace hO : IniOK [ob (.pointer (some ⟨b3_0, 0, none⟩)) (.box w0.heap.size 25 E_laws_SetIndex p0), ob (.pointer (some ⟨b8_14, 0, none⟩)) (.box w0.heap.size 30 E_impl_SetIndex x12.1), ⟨u21, S23, trR (geB w0.heap.size) (oPt 30 (oPr (oRd (eInt .i64)) (oPr (oSl 70 (oRd E_impl_TokenCount)) (oSl 55 (oPr (oRd (eInt .i64)) (oSl 9 (oRd eStr))))))) x17 [(u21, h49)]⟩, ob u29 (.vec w0.heap.size 9 eStr x24), ⟨u39, S41, trR (geB w0.heap.size) (oPt 30 (oPr (oRd (eInt .i64)) (oPr (oSl 70 (oRd E_impl_TokenCount)) (oSl 55 (oPr (oRd (eInt .i64)) (oSl 9 (oRd eStr))))))) x31.1 []⟩] A w := hO.repin 2 rfl (trP.pin p_h49)
        obtain ⟨x51, q52, hr⟩ := cl_some hr
        obtain ⟨x53, q54, hr⟩ := cl_some hr
        refine HT.draw (by kernel_rfl) (l := ⟨_, true, .raw (Enc.val E_impl_SetIndex h49)⟩ :: ⟨_, true, .rep E_laws_SetIndex A p0⟩ :: ⟨_, true, .rep E_impl_SetIndex A x51⟩ :: ⟨_, true, .raw (.bool x53)⟩ :: ⟨_, true, .raw (.bool (!x53))⟩ :: []) (tl := []) (by kernel_rfl) (by kernel_rfl) (by kernel_rfl) (by kernel_rfl) ?_ ?_
        · exact
            Obls.cons (Obl.plain rfl rfl fun R' w' hw hs hd => by have a0 : R' 10 = u21 := (hs 10 rfl).trans h10; exact of_load_pinS (F := oPr (oRd (eInt .i64)) (oPr (oSl 70 (oRd E_impl_TokenCount)) (oSl 55 (oPr (oRd (eInt .i64)) (oSl 9 (oRd eStr)))))) (((hO.fr hw).own 2 _ rfl).2.2 _ (.head _)) l_h49 a0 Try.isAgg30 Try.sizeOf30) <|
            Obls.cons (Obl.plain rfl rfl fun R' w' hw hs hd => by have a0 : R' 3 = (.pointer (some ⟨b3_0, 0, none⟩)) := (hs 3 rfl).trans h3; exact (of_load_box ((hO.fr hw).ok 0 _ rfl).1 a0 (Fld.id _) rfl Try.isAgg25 Try.sizeOf25)) <|
            Obls.cons (Obl.plain rfl rfl fun R' w' hw hs hd => by have a0 : Rep E_laws_SetIndex A w' (R' 59) p0 := hd 0 _ _ _ rfl rfl rfl rfl rfl; exact of_call Try.call7 (M_laws_toSetIndex_okR (q52 rfl) (hA.fr hw.size) a0)) <|
            Obls.cons (Obl.plain rfl rfl fun R' w' hw hs hd => by have a0 : R' 58 = (Enc.val E_impl_SetIndex h49) := hd 0 _ _ _ rfl rfl rfl rfl rfl; have ra0 : Rep E_impl_SetIndex A0 w' (R' 58) _ := (vh_rep (((tr_root ((hO.fr hw).own 2 _ rfl).2).ptr).pinS (((hO.fr hw).own 2 _ rfl).2.2 _ (.head _)) l_h49) hAA (fun k o hk ha => Nat.not_lt.2 (((hO.fr hw).own 2 _ rfl).1 k hk) (hA0 k o ha))).eq a0; have a1 : Rep E_impl_SetIndex A w' (R' 60) x51 := hd 1 _ _ _ rfl rfl rfl rfl rfl; exact of_call Try.call9 (M_laws_eqSetIndex_ok (q54 rfl) (hA00.fr ((Nat.le_trans hF.size hw.size))) ra0 (a1.down hAA))) <|
            Obls.cons (Obl.plain rfl rfl fun R' w' hw hs hd => by have a0 : R' 61 = .bool x53 := hd 0 _ _ _ rfl rfl rfl rfl rfl; exact of_not a0) <|
            Obls.nil
        intro R w hw hs hF'
        replace h1 : R 1 = .int .i64 p1 := (hs 1 rfl).trans h1
        replace h2 : R 2 = v2 := (hs 2 rfl).trans h2
        replace h3 : R 3 = (.pointer (some ⟨b3_0, 0, none⟩)) := (hs 3 rfl).trans h3
        replace h8 : R 8 = (.pointer (some ⟨b8_14, 0, none⟩)) := (hs 8 rfl).trans h8
        replace h9 : R 9 = .bool x12.2 := (hs 9 rfl).trans h9
        replace h10 : R 10 = u21 := (hs 10 rfl).trans h10
        replace h11 : R 11 = u29 := (hs 11 rfl).trans h11
        replace h12 : R 12 = u39 := (hs 12 rfl).trans h12
        replace h13 : R 13 = .bool x31.2 := (hs 13 rfl).trans h13
        have h62 : R 62 = .bool (!x53) := hF' 4 _ _ rfl rfl rfl
        replace f_v2 := f_v2.fr hw
        replace hO := hO.fr hw
        replace hA := hA.fr hw.size
        replace hF := hF.trans hw
        clear hs hF' hw
        refine seqR_nil ?_
        replace hO : IniOK [ob (.pointer (some ⟨b3_0, 0, none⟩)) (.box w0.heap.size 25 E_laws_SetIndex p0), ob (.pointer (some ⟨b8_14, 0, none⟩)) (.box w0.heap.size 30 E_impl_SetIndex x12.1), ⟨u21, S23, trR (geB w0.heap.size) (oPt 30 (oPr (oRd (eInt .i64)) (oPr (oSl 70 (oRd E_impl_TokenCount)) (oSl 55 (oPr (oRd (eInt .i64)) (oSl 9 (oRd eStr))))))) x17 []⟩, ob u29 (.vec w0.heap.size 9 eStr x24), ⟨u39, S41, trR (geB w0.heap.size) (oPt 30 (oPr (oRd (eInt .i64)) (oPr (oSl 70 (oRd E_impl_TokenCount)) (oSl 55 (oPr (oRd (eInt .i64)) (oSl 9 (oRd eStr))))))) x31.1 []⟩] A w := hO.repin 2 rfl trP.nopin
        refine HT.cond (!x53) h62 (fun c55 => ?_) (fun c55 => ?_)
        · have hr := cnd_t c55 hr
          refine HT.seq ?_
          refine HT.text (l := ⟨_, true, .raw (.bool false)⟩ :: []) (tl := []) (by kernel_rfl) (by kernel_rfl) (by kernel_rfl) ?_ ?_
          · exact
              Obls.cons (Obl.plain rfl rfl fun R' w' hw hs hd => by exact of_assign rfl) <|
              Obls.nil
          intro R w hw hs hF'
          have h6 : R 6 = .bool false := hF' 0 _ _ rfl rfl rfl
          replace hO := hO.fr hw
          replace hO : IniOK [] A w := hO.sub [] trivial
          replace hA := hA.fr hw.size
          replace hF := hF.trans hw
          clear hs hF' hw
          refine seqR_nil ?_
          refine HT.ret ?_
          obtain rfl := Option.some.inj hr
          exact ⟨.inr rfl, [R 6], ⟨rfl, trivial⟩, h6, hF⟩
        · have hr := cnd_f c55 hr
          refine HT.skip ?_
          refine HT.seq ?_
          refine HT.seq ?_
          obtain ⟨x56, q57, hr⟩ := cl_some hr
          obtain ⟨x58, q59, hr⟩ := cl_some hr
          refine HT.text (l := ⟨_, true, .raw u29⟩ :: ⟨_, true, .raw v2⟩ :: ⟨_, true, .rep (eSl eStr) A x56⟩ :: ⟨_, true, .raw (.bool x58)⟩ :: ⟨_, true, .raw (.bool (!x58))⟩ :: []) (tl := []) (by kernel_rfl) (by kernel_rfl) (by kernel_rfl) ?_ ?_
          · exact
              Obls.cons (Obl.plain rfl rfl fun R' w' hw hs hd => by have a0 : R' 11 = u29 := (hs 11 rfl).trans h11; exact of_move a0) <|
              Obls.cons (Obl.plain rfl rfl fun R' w' hw hs hd => by have a0 : R' 2 = v2 := (hs 2 rfl).trans h2; exact of_move a0) <|
              Obls.cons (Obl.plain rfl rfl fun R' w' hw hs hd => by have a0 : R' 64 = v2 := hd 0 _ _ _ rfl rfl rfl rfl rfl; have ra0 := (f_v2.fr hw).eq a0; exact of_call Try.call14 (M_laws_toStringS_okR (q57 rfl) (hA.fr hw.size) ra0)) <|
              Obls.cons (Obl.plain rfl rfl fun R' w' hw hs hd => by have a0 : R' 63 = u29 := hd 0 _ _ _ rfl rfl rfl rfl rfl; have ra0 := (vec_rep ((hO.fr hw).ok 3 _ rfl).1 hAA hA0).eq a0; have a1 : Rep (eSl eStr) A w' (R' 65) x56 := hd 1 _ _ _ rfl rfl rfl rfl rfl; exact of_call Try.call16 (M_laws_eqStringS_ok (q59 rfl) (hA00.fr ((Nat.le_trans hF.size hw.size))) ra0 (a1.down hAA))) <|
              Obls.cons (Obl.plain rfl rfl fun R' w' hw hs hd => by have a0 : R' 66 = .bool x58 := hd 0 _ _ _ rfl rfl rfl rfl rfl; exact of_not a0) <|
              Obls.nil
          intro R w hw hs hF'
          replace h1 : R 1 = .int .i64 p1 := (hs 1 rfl).trans h1
          replace h2 : R 2 = v2 := (hs 2 rfl).trans h2
          replace h3 : R 3 = (.pointer (some ⟨b3_0, 0, none⟩)) := (hs 3 rfl).trans h3
          replace h8 : R 8 = (.pointer (some ⟨b8_14, 0, none⟩)) := (hs 8 rfl).trans h8
          replace h9 : R 9 = .bool x12.2 := (hs 9 rfl).trans h9
          replace h10 : R 10 = u21 := (hs 10 rfl).trans h10
          replace h11 : R 11 = u29 := (hs 11 rfl).trans h11
          replace h12 : R 12 = u39 := (hs 12 rfl).trans h12
          replace h13 : R 13 = .bool x31.2 := (hs 13 rfl).trans h13
          have h67 : R 67 = .bool (!x58) := hF' 4 _ _ rfl rfl rfl
          replace f_v2 := f_v2.fr hw
          replace hO := hO.fr hw
          replace hA := hA.fr hw.size
          replace hF := hF.trans hw
          clear hs hF' hw
          refine seqR_nil ?_
          refine HT.cond (!x58) h67 (fun c60 => ?_) (fun c60 => ?_)
          · have hr := cnd_t c60 hr
            refine HT.seq ?_
            refine HT.text (l := ⟨_, true, .raw (.bool false)⟩ :: []) (tl := []) (by kernel_rfl) (by kernel_rfl) (by kernel_rfl) ?_ ?_
            · exact
                Obls.cons (Obl.plain rfl rfl fun R' w' hw hs hd => by exact of_assign rfl) <|
                Obls.nil
            intro R w hw hs hF'
            have h6 : R 6 = .bool false := hF' 0 _ _ rfl rfl rfl
            replace hO := hO.fr hw
            replace hO : IniOK [] A w := hO.sub [] trivial
            replace hA := hA.fr hw.size
            replace hF := hF.trans hw
            clear hs hF' hw
            refine seqR_nil ?_
            refine HT.ret ?_
            obtain rfl := Option.some.inj hr
            exact ⟨.inr rfl, [R 6], ⟨rfl, trivial⟩, h6, hF⟩
          · have hr := cnd_f c60 hr
            refine HT.skip ?_
            refine HT.seq ?_
            refine HT.text (l := ⟨_, true, .raw (.int .i64 (1 : Int))⟩ :: []) (tl := []) (by kernel_rfl) (by kernel_rfl) (by kernel_rfl) ?_ ?_
            · exact
                Obls.cons (Obl.plain rfl rfl fun R' w' hw hs hd => by exact of_assign rfl) <|
                Obls.nil
            intro R w hw hs hF'
            replace h1 : R 1 = .int .i64 p1 := (hs 1 rfl).trans h1
            replace h2 : R 2 = v2 := (hs 2 rfl).trans h2
            replace h3 : R 3 = (.pointer (some ⟨b3_0, 0, none⟩)) := (hs 3 rfl).trans h3
            replace h8 : R 8 = (.pointer (some ⟨b8_14, 0, none⟩)) := (hs 8 rfl).trans h8
            replace h9 : R 9 = .bool x12.2 := (hs 9 rfl).trans h9
            replace h10 : R 10 = u21 := (hs 10 rfl).trans h10
            replace h11 : R 11 = u29 := (hs 11 rfl).trans h11
            replace h12 : R 12 = u39 := (hs 12 rfl).trans h12
            replace h13 : R 13 = .bool x31.2 := (hs 13 rfl).trans h13
            have h14 : R 14 = .int .i64 (1 : Int) := hF' 0 _ _ rfl rfl rfl
            replace f_v2 := f_v2.fr hw
            replace hO := hO.fr hw
            replace hA := hA.fr hw.size
            replace hF := hF.trans hw
            clear hs hF' hw
            refine seqR_nil ?_
            refine HT.seq ?_
            obtain ⟨h61, l_h61, p_h61⟩ := ((tr_root (hO.own 2 _ rfl).2).ptr).open
            replace hO : IniOK [ob (.pointer (some ⟨b3_0, 0, none⟩)) (.box w0.heap.size 25 E_laws_SetIndex p0), ob (.pointer (some ⟨b8_14, 0, none⟩)) (.box w0.heap.size 30 E_impl_SetIndex x12.1), ⟨u21, S23, trR (geB w0.heap.size) (oPt 30 (oPr (oRd (eInt .i64)) (oPr (oSl 70 (oRd E_impl_TokenCount)) (oSl 55 (oPr (oRd (eInt .i64)) (oSl 9 (oRd eStr))))))) x17 [(u21, h61)]⟩, ob u29 (.vec w0.heap.size 9 eStr x24), ⟨u39, S41, trR (geB w0.heap.size) (oPt 30 (oPr (oRd (eInt .i64)) (oPr (oSl 70 (oRd E_impl_TokenCount)) (oSl 55 (oPr (oRd (eInt .i64)) (oSl 9 (oRd eStr))))))) x31.1 []⟩] A w := hO.repin 2 rfl (trP.pin p_h61)
            obtain ⟨x63, q64, hr⟩ := cl_some hr
            refine HT.textR [ob (.pointer (some ⟨b3_0, 0, none⟩)) (.box w0.heap.size 25 E_laws_SetIndex p0), ob (.pointer (some ⟨b8_14, 0, none⟩)) (.box w0.heap.size 30 E_impl_SetIndex x12.1), ⟨u21, S23, trR (geB w0.heap.size) (oPt 30 (oPr (oRd (eInt .i64)) (oPr (oSl 70 (oRd E_impl_TokenCount)) (oSl 55 (oPr (oRd (eInt .i64)) (oSl 9 (oRd eStr))))))) x17 [(u21, h61)]⟩, ob u29 (.vec w0.heap.size 9 eStr x24), ⟨u39, S41, trR (geB w0.heap.size) (oPt 30 (oPr (oRd (eInt .i64)) (oPr (oSl 70 (oRd E_impl_TokenCount)) (oSl 55 (oPr (oRd (eInt .i64)) (oSl 9 (oRd eStr))))))) x31.1 []⟩] (⟨_, true, [], none, true, fun A => .raw (Enc.val E_impl_SetIndex h61)⟩ :: ⟨_, true, [], none, true, fun A => .raw (.int .i64 (1 : Int))⟩ :: ⟨_, true, [2], some (trR (geB w0.heap.size) (oPt 30 (oPr (oRd (eInt .i64)) (oPr (oSl 70 (oRd E_impl_TokenCount)) (oSl 55 (oPr (oRd (eInt .i64)) (oSl 9 (oRd eStr))))))) x63.2 []), false, fun A => .raw (.int .i64 x63.1)⟩ :: ⟨_, true, [], none, true, fun A => .raw (.int .i64 x63.1)⟩ :: []) (by kernel_rfl) (by kernel_rfl) (Wf.mk' (by kernel_rfl) (UAll.cons ust_raw (UAll.cons ust_raw (UAll.cons ust_raw (UAll.cons ust_raw (UAll.nil))))) (by kernel_rfl) (by kernel_rfl)) hO hA ?_ ?_
            · exact
                OblsR.cons (OblR.plain rfl rfl rfl rfl fun A' R' w' ho hd => by have a0 : R' 10 = u21 := (ho.old 10 rfl).trans h10; exact of_load_pinS (F := oPr (oRd (eInt .i64)) (oPr (oSl 70 (oRd E_impl_TokenCount)) (oSl 55 (oPr (oRd (eInt .i64)) (oSl 9 (oRd eStr)))))) ((ho.rdo 2 _ rfl rfl).2.2 _ (.head _)) l_h61 a0 Try.isAgg30 Try.sizeOf30) <|
                OblsR.cons (OblR.plain rfl rfl rfl rfl fun A' R' w' ho hd => by have a0 : R' 14 = .int .i64 (1 : Int) := (ho.old 14 rfl).trans h14; exact of_move a0) <|
                OblsR.cons (OblR.tookS 2 _ _ rfl rfl rfl rfl rfl fun A' R' w' ho hd u S hok hown hav hin hop hds => by have a0 : R' 68 = (Enc.val E_impl_SetIndex h61) := hd 0 _ _ _ rfl rfl rfl rfl rfl; have a1 : R' 69 = .int .i64 (1 : Int) := hd 1 _ _ _ rfl rfl rfl rfl rfl; have e0 := (hin _ rfl).1; rw [e0] at hown ⊢; have hu0 : evalR R' (.tmp 68) = (Enc.val E_impl_SetIndex h61) := a0; exact took_callT Try.call10 (((tr_root hown.2).ptr).pinS (hown.2.2 _ (.head _)) l_h61) hav hown.1 (fun k hk => Nat.le_trans (Nat.le_trans hF.size ho.ch.size) hk) (fun k hk => SP.lt _ hown.2 hk) (fun S1 hS1 hP => by simp only [List.map, hu0]; exact M_laws_markSetIndex_ok (q64 rfl) (ho.av.subS _) (fun b o h => h.2) hP a1) (fun _ _ _ h => h)) <|
                OblsR.cons (OblR.plain rfl rfl rfl rfl fun A' R' w' ho hd => by have a0 : R' 70 = .int .i64 x63.1 := hd 0 _ _ _ rfl rfl rfl rfl rfl; exact of_assign a0) <|
                OblsR.nil
            intro done ρ σ A R w hdn hI
            replace h1 : R 1 = .int .i64 p1 := (hI.reg rfl).trans h1
            replace h2 : R 2 = v2 := (hI.reg rfl).trans h2
            replace h3 : R 3 = (.pointer (some ⟨b3_0, 0, none⟩)) := (hI.reg rfl).trans h3
            replace h8 : R 8 = (.pointer (some ⟨b8_14, 0, none⟩)) := (hI.reg rfl).trans h8
            replace h9 : R 9 = .bool x12.2 := (hI.reg rfl).trans h9
            replace h11 : R 11 = u29 := (hI.reg rfl).trans h11
            replace h12 : R 12 = u39 := (hI.reg rfl).trans h12
            replace h13 : R 13 = .bool x31.2 := (hI.reg rfl).trans h13
            have z65 := hI.inivR 0 rfl
            have z66 := hI.inivR 1 rfl
            have z67 := hI.inivR 2 rfl
            have z68 := (hI.opnR hdn 7 2 rfl rfl rfl rfl rfl).trans z67
            have z69 := hI.inivR 3 rfl
            have z70 := hI.inivR 4 rfl
            obtain ⟨S71, eS_u21⟩ : ∃ S, σ 7 = S := ⟨_, rfl⟩
            have eS_u39 := hI.inisR 4 rfl
            have h14 : R 14 = .int .i64 x63.1 := hI.fact hdn (i := 3) rfl rfl rfl
            replace f_v2 := f_v2.stp hI.stp
            replace hAA := hI.low' hAA hA0 (hO.ge (⟨rfl, ⟨rfl, ⟨fun _ h => h, ⟨rfl, ⟨fun _ h => h, trivial⟩⟩⟩⟩⟩))
            replace hF : Fr w0 w := hF.tr hI.ch (hO.ge (⟨rfl, ⟨rfl, ⟨fun _ h => h, ⟨rfl, ⟨fun _ h => h, trivial⟩⟩⟩⟩⟩))
            replace hO : IniOK [ob (.pointer (some ⟨b3_0, 0, none⟩)) (.box w0.heap.size 25 E_laws_SetIndex p0), ob (.pointer (some ⟨b8_14, 0, none⟩)) (.box w0.heap.size 30 E_impl_SetIndex x12.1), ob u29 (.vec w0.heap.size 9 eStr x24), ⟨u39, S41, trR (geB w0.heap.size) (oPt 30 (oPr (oRd (eInt .i64)) (oPr (oSl 70 (oRd E_impl_TokenCount)) (oSl 55 (oPr (oRd (eInt .i64)) (oSl 9 (oRd eStr))))))) x31.1 []⟩] A w := hI.left hdn [(0, ob (.pointer (some ⟨b3_0, 0, none⟩)) (.box w0.heap.size 25 E_laws_SetIndex p0)), (1, ob (.pointer (some ⟨b8_14, 0, none⟩)) (.box w0.heap.size 30 E_impl_SetIndex x12.1)), (3, ob u29 (.vec w0.heap.size 9 eStr x24)), (4, ⟨u39, S41, trR (geB w0.heap.size) (oPt 30 (oPr (oRd (eInt .i64)) (oPr (oSl 70 (oRd E_impl_TokenCount)) (oSl 55 (oPr (oRd (eInt .i64)) (oSl 9 (oRd eStr))))))) x31.1 []⟩)] ⟨rfl, rfl, z65, rfl, rfl, ⟨rfl, rfl, z66, rfl, rfl, ⟨rfl, rfl, z69, rfl, rfl, ⟨rfl, rfl, z70, eS_u39, rfl, trivial⟩⟩⟩⟩
            replace hA := hI.avok
            clear hI
            refine HT.seq ?_
            obtain ⟨x72, q73, hr⟩ := cl_some hr
            refine HT.textR [ob (.pointer (some ⟨b3_0, 0, none⟩)) (.box w0.heap.size 25 E_laws_SetIndex p0), ob (.pointer (some ⟨b8_14, 0, none⟩)) (.box w0.heap.size 30 E_impl_SetIndex x12.1), ob u29 (.vec w0.heap.size 9 eStr x24), ⟨u39, S41, trR (geB w0.heap.size) (oPt 30 (oPr (oRd (eInt .i64)) (oPr (oSl 70 (oRd E_impl_TokenCount)) (oSl 55 (oPr (oRd (eInt .i64)) (oSl 9 (oRd eStr))))))) x31.1 []⟩] (⟨_, true, [], none, true, fun A => .raw u29⟩ :: ⟨_, true, [], none, true, fun A => .raw (.int .i64 x63.1)⟩ :: ⟨_, true, [2], some (.vec w0.heap.size 9 eStr x72.2), false, fun A => .raw (.int .i64 x72.1)⟩ :: ⟨_, true, [], none, true, fun A => .raw (.int .i64 x72.1)⟩ :: []) (by kernel_rfl) (by kernel_rfl) (Wf.mk' (by kernel_rfl) (UAll.cons ust_raw (UAll.cons ust_raw (UAll.cons ust_raw (UAll.cons ust_raw (UAll.nil))))) (by kernel_rfl) (by kernel_rfl)) hO hA ?_ ?_
            · exact
                OblsR.cons (OblR.plain rfl rfl rfl rfl fun A' R' w' ho hd => by have a0 : R' 11 = u29 := (ho.old 11 rfl).trans h11; exact of_move a0) <|
                OblsR.cons (OblR.plain rfl rfl rfl rfl fun A' R' w' ho hd => by have a0 : R' 14 = .int .i64 x63.1 := (ho.old 14 rfl).trans h14; exact of_move a0) <|
                OblsR.cons (OblR.took 2 _ _ rfl rfl rfl rfl rfl fun A' R' w' ho hd u hok hav hin hop hds => by have a0 : R' 71 = u29 := hd 0 _ _ _ rfl rfl rfl rfl rfl; have a1 : R' 72 = .int .i64 x63.1 := hd 1 _ _ _ rfl rfl rfl rfl rfl; have hu0 : evalR R' (.tmp 71) = u := a0.trans (hin _ rfl).symm; exact took_call Try.call17 hav (fun _ _ _ _ _ h => h) (by simp only [List.map, hu0]; exact Calls.mono (M_laws_markStringS_ok (q73 rfl) (ho.av.sub _) (fun b o h => h.2) (Vec.flat hok (fun _ _ _ _ _ h => h)) a1) (fun _ _ ⟨v, h1, h2, h3, h4⟩ => ⟨v, h1, h2, h3, h4⟩))) <|
                OblsR.cons (OblR.plain rfl rfl rfl rfl fun A' R' w' ho hd => by have a0 : R' 73 = .int .i64 x72.1 := hd 0 _ _ _ rfl rfl rfl rfl rfl; exact of_assign a0) <|
                OblsR.nil
            intro done ρ σ A R w hdn hI
            replace h1 : R 1 = .int .i64 p1 := (hI.reg rfl).trans h1
            replace h2 : R 2 = v2 := (hI.reg rfl).trans h2
            replace h3 : R 3 = (.pointer (some ⟨b3_0, 0, none⟩)) := (hI.reg rfl).trans h3
            replace h8 : R 8 = (.pointer (some ⟨b8_14, 0, none⟩)) := (hI.reg rfl).trans h8
            replace h9 : R 9 = .bool x12.2 := (hI.reg rfl).trans h9
            replace h12 : R 12 = u39 := (hI.reg rfl).trans h12
            replace h13 : R 13 = .bool x31.2 := (hI.reg rfl).trans h13
            have z74 := hI.inivR 0 rfl
            have z75 := hI.inivR 1 rfl
            have z76 := hI.inivR 2 rfl
            have z77 := (hI.opnR hdn 6 2 rfl rfl rfl rfl rfl).trans z76
            have z78 := hI.inivR 3 rfl
            have eS_u39 := hI.inisR 3 rfl
            have h14 : R 14 = .int .i64 x72.1 := hI.fact hdn (i := 3) rfl rfl rfl
            replace f_v2 := f_v2.stp hI.stp
            replace hAA := hI.low' hAA hA0 (hO.ge (⟨rfl, ⟨rfl, ⟨rfl, ⟨fun _ h => h, trivial⟩⟩⟩⟩))
            replace hF : Fr w0 w := hF.tr hI.ch (hO.ge (⟨rfl, ⟨rfl, ⟨rfl, ⟨fun _ h => h, trivial⟩⟩⟩⟩))
            replace hO : IniOK [ob (.pointer (some ⟨b3_0, 0, none⟩)) (.box w0.heap.size 25 E_laws_SetIndex p0), ob (.pointer (some ⟨b8_14, 0, none⟩)) (.box w0.heap.size 30 E_impl_SetIndex x12.1), ⟨u39, S41, trR (geB w0.heap.size) (oPt 30 (oPr (oRd (eInt .i64)) (oPr (oSl 70 (oRd E_impl_TokenCount)) (oSl 55 (oPr (oRd (eInt .i64)) (oSl 9 (oRd eStr))))))) x31.1 []⟩] A w := hI.left hdn [(0, ob (.pointer (some ⟨b3_0, 0, none⟩)) (.box w0.heap.size 25 E_laws_SetIndex p0)), (1, ob (.pointer (some ⟨b8_14, 0, none⟩)) (.box w0.heap.size 30 E_impl_SetIndex x12.1)), (3, ⟨u39, S41, trR (geB w0.heap.size) (oPt 30 (oPr (oRd (eInt .i64)) (oPr (oSl 70 (oRd E_impl_TokenCount)) (oSl 55 (oPr (oRd (eInt .i64)) (oSl 9 (oRd eStr))))))) x31.1 []⟩)] ⟨rfl, rfl, z74, rfl, rfl, ⟨rfl, rfl, z75, rfl, rfl, ⟨rfl, rfl, z78, eS_u39, rfl, trivial⟩⟩⟩
            replace hA := hI.avok
            clear hI
            refine HT.seq ?_
            refine HT.seq ?_
            obtain ⟨h79, l_h79, p_h79⟩ := ((tr_root (hO.own 2 _ rfl).2).ptr).open
            replace hO : IniOK [ob (.pointer (some ⟨b3_0, 0, none⟩)) (.box w0.heap.size 25 E_laws_SetIndex p0), ob (.pointer (some ⟨b8_14, 0, none⟩)) (.box w0.heap.size 30 E_impl_SetIndex x12.1), ⟨u39, S41, trR (geB w0.heap.size) (oPt 30 (oPr (oRd (eInt .i64)) (oPr (oSl 70 (oRd E_impl_TokenCount)) (oSl 55 (oPr (oRd (eInt .i64)) (oSl 9 (oRd eStr))))))) x31.1 [(u39, h79)]⟩] A w := hO.repin 2 rfl (trP.pin p_h79)
            obtain ⟨x81, q82, hr⟩ := cl_some hr
            obtain ⟨x83, q84, hr⟩ := bd_some hr
            obtain ⟨x85, q86, hr⟩ := bd_some hr
            refine HT.text (l := ⟨_, true, .raw (.int .i64 x72.1)⟩ :: ⟨_, true, .raw (.bool (decide (x72.1 < (0 : Int))))⟩ :: ⟨_, true, .raw (.bool (decide (x72.1 < (0 : Int))))⟩ :: ⟨_, (true && ((decide (x72.1 < (0 : Int))) == false)), .raw (Enc.val E_impl_SetIndex h79)⟩ :: ⟨_, (true && ((decide (x72.1 < (0 : Int))) == false)), .rep E_impl_SetIndex A x12.1⟩ :: ⟨_, (true && ((decide (x72.1 < (0 : Int))) == false)), .raw (.bool x81)⟩ :: ⟨_, (true && ((decide (x72.1 < (0 : Int))) == false)), .raw (.bool (!x81))⟩ :: ⟨_, true, .raw (.bool x83)⟩ :: ⟨_, true, .raw (.bool x83)⟩ :: ⟨_, (true && (x83 == false)), .raw (.bool x31.2)⟩ :: ⟨_, (true && (x83 == false)), .raw (.bool x12.2)⟩ :: ⟨_, (true && (x83 == false)), .raw (.bool (x31.2 != x12.2))⟩ :: ⟨_, true, .raw (.bool x85)⟩ :: []) (tl := []) (by kernel_rfl) (by kernel_rfl) (by kernel_rfl) ?_ ?_
            · exact
                Obls.cons (Obl.plain rfl rfl fun R' w' hw hs hd => by have a0 : R' 14 = .int .i64 x72.1 := (hs 14 rfl).trans h14; exact of_move a0) <|
                Obls.cons (Obl.plain rfl rfl fun R' w' hw hs hd => by have a0 : R' 74 = .int .i64 x72.1 := hd 0 _ _ _ rfl rfl rfl rfl rfl; exact of_lss a0 rfl) <|
                Obls.cons (Obl.plain rfl rfl fun R' w' hw hs hd => by have a0 : R' 75 = .bool (decide (x72.1 < (0 : Int))) := hd 0 _ _ _ rfl rfl rfl rfl rfl; exact of_move a0) <|
                Obls.cons (Obl.grd 2 false _ _ _ rfl rfl rfl rfl rfl (by kernel_rfl) fun hg R' w' hw hs hd => by have a0 : R' 12 = u39 := (hs 12 rfl).trans h12; exact of_load_pinS (F := oPr (oRd (eInt .i64)) (oPr (oSl 70 (oRd E_impl_TokenCount)) (oSl 55 (oPr (oRd (eInt .i64)) (oSl 9 (oRd eStr)))))) (((hO.fr hw).own 2 _ rfl).2.2 _ (.head _)) l_h79 a0 Try.isAgg30 Try.sizeOf30) <|
                Obls.cons (Obl.grd 2 false _ _ _ rfl rfl rfl rfl rfl (by kernel_rfl) fun hg R' w' hw hs hd => by have a0 : R' 8 = (.pointer (some ⟨b8_14, 0, none⟩)) := (hs 8 rfl).trans h8; exact (of_load_box ((hO.fr hw).ok 1 _ rfl).1 a0 (Fld.id _) rfl Try.isAgg30 Try.sizeOf30)) <|
                Obls.cons (Obl.grd 2 false _ _ _ rfl rfl rfl rfl rfl (by kernel_rfl) fun hg R' w' hw hs hd => by have a0 : R' 77 = (Enc.val E_impl_SetIndex h79) := hd 0 _ _ _ rfl rfl rfl rfl hg; have ra0 : Rep E_impl_SetIndex A0 w' (R' 77) _ := (vh_rep (((tr_root ((hO.fr hw).own 2 _ rfl).2).ptr).pinS (((hO.fr hw).own 2 _ rfl).2.2 _ (.head _)) l_h79) hAA (fun k o hk ha => Nat.not_lt.2 (((hO.fr hw).own 2 _ rfl).1 k hk) (hA0 k o ha))).eq a0; have a1 : Rep E_impl_SetIndex A w' (R' 78) x12.1 := hd 1 _ _ _ rfl rfl rfl rfl hg; exact of_call Try.call9 (M_laws_eqSetIndex_ok (q82 hg) (hA00.fr ((Nat.le_trans hF.size hw.size))) ra0 (a1.down hAA))) <|
                Obls.cons (Obl.grd 2 false _ _ _ rfl rfl rfl rfl rfl (by kernel_rfl) fun hg R' w' hw hs hd => by have a0 : R' 79 = .bool x81 := hd 0 _ _ _ rfl rfl rfl rfl hg; exact of_not a0) <|
                Obls.cons (Obl.plain rfl rfl fun R' w' hw hs hd => by have a0 : R' 76 = .bool (decide (x72.1 < (0 : Int))) := hd 0 _ _ _ rfl rfl rfl rfl rfl; exact of_pick (decide (x72.1 < (0 : Int))) a0 (fun hc => by show _ = Value.bool x83; rw [q84, hc]; exact rfl) (fun hc => by have a2 : R' 80 = .bool (!x81) := hd 1 _ _ _ rfl rfl rfl rfl (g_and rfl (beq_of hc)); show _ = Value.bool x83; rw [q84, hc]; exact a2)) <|
                Obls.cons (Obl.plain rfl rfl fun R' w' hw hs hd => by have a0 : R' 81 = .bool x83 := hd 0 _ _ _ rfl rfl rfl rfl rfl; exact of_move a0) <|
                Obls.cons (Obl.grd 8 false _ _ _ rfl rfl rfl rfl rfl (by kernel_rfl) fun hg R' w' hw hs hd => by have a0 : R' 13 = .bool x31.2 := (hs 13 rfl).trans h13; exact of_move a0) <|
                Obls.cons (Obl.grd 8 false _ _ _ rfl rfl rfl rfl rfl (by kernel_rfl) fun hg R' w' hw hs hd => by have a0 : R' 9 = .bool x12.2 := (hs 9 rfl).trans h9; exact of_move a0) <|
                Obls.cons (Obl.grd 8 false _ _ _ rfl rfl rfl rfl rfl (by kernel_rfl) fun hg R' w' hw hs hd => by have a0 : R' 83 = .bool x31.2 := hd 0 _ _ _ rfl rfl rfl rfl hg; have a1 : R' 84 = .bool x12.2 := hd 1 _ _ _ rfl rfl rfl rfl hg; exact of_bneq Try.underlying4 a0 a1) <|
                Obls.cons (Obl.plain rfl rfl fun R' w' hw hs hd => by have a0 : R' 82 = .bool x83 := hd 0 _ _ _ rfl rfl rfl rfl rfl; exact of_pick x83 a0 (fun hc => by show _ = Value.bool x85; rw [q86, hc]; exact rfl) (fun hc => by have a2 : R' 85 = .bool (x31.2 != x12.2) := hd 1 _ _ _ rfl rfl rfl rfl (g_and rfl (beq_of hc)); show _ = Value.bool x85; rw [q86, hc]; exact a2)) <|
                Obls.nil
            intro R w hw hs hF'
            replace h1 : R 1 = .int .i64 p1 := (hs 1 rfl).trans h1
            replace h2 : R 2 = v2 := (hs 2 rfl).trans h2
            replace h3 : R 3 = (.pointer (some ⟨b3_0, 0, none⟩)) := (hs 3 rfl).trans h3
            replace h8 : R 8 = (.pointer (some ⟨b8_14, 0, none⟩)) := (hs 8 rfl).trans h8
            replace h9 : R 9 = .bool x12.2 := (hs 9 rfl).trans h9
            replace h12 : R 12 = u39 := (hs 12 rfl).trans h12
            have h86 : R 86 = .bool x85 := hF' 12 _ _ rfl rfl rfl
            replace f_v2 := f_v2.fr hw
            replace hO := hO.fr hw
            replace hA := hA.fr hw.size
            replace hF := hF.trans hw
            clear hs hF' hw
            refine seqR_nil ?_
            replace hO : IniOK [ob (.pointer (some ⟨b3_0, 0, none⟩)) (.box w0.heap.size 25 E_laws_SetIndex p0), ob (.pointer (some ⟨b8_14, 0, none⟩)) (.box w0.heap.size 30 E_impl_SetIndex x12.1), ⟨u39, S41, trR (geB w0.heap.size) (oPt 30 (oPr (oRd (eInt .i64)) (oPr (oSl 70 (oRd E_impl_TokenCount)) (oSl 55 (oPr (oRd (eInt .i64)) (oSl 9 (oRd eStr))))))) x31.1 []⟩] A w := hO.repin 2 rfl trP.nopin
            refine HT.cond x85 h86 (fun c87 => ?_) (fun c87 => ?_)
            · have hr := cnd_t c87 hr
              refine HT.seq ?_
              refine HT.text (l := ⟨_, true, .raw (.bool false)⟩ :: []) (tl := []) (by kernel_rfl) (by kernel_rfl) (by kernel_rfl) ?_ ?_
              · exact
                  Obls.cons (Obl.plain rfl rfl fun R' w' hw hs hd => by exact of_assign rfl) <|
                  Obls.nil
              intro R w hw hs hF'
              have h6 : R 6 = .bool false := hF' 0 _ _ rfl rfl rfl
              replace hO := hO.fr hw
              replace hO : IniOK [] A w := hO.sub [] trivial
              replace hA := hA.fr hw.size
              replace hF := hF.trans hw
              clear hs hF' hw
              refine seqR_nil ?_
              refine HT.ret ?_
              obtain rfl := Option.some.inj hr
              exact ⟨.inr rfl, [R 6], ⟨rfl, trivial⟩, h6, hF⟩
            · have hr := cnd_f c87 hr
              refine HT.skip ?_
              refine HT.seq ?_
              refine HT.text (l := ⟨_, true, .raw (.int .i64 (1 : Int))⟩ :: []) (tl := []) (by kernel_rfl) (by kernel_rfl) (by kernel_rfl) ?_ ?_
              · exact
                  Obls.cons (Obl.plain rfl rfl fun R' w' hw hs hd => by exact of_assign rfl) <|
                  Obls.nil
              intro R w hw hs hF'
              replace h1 : R 1 = .int .i64 p1 := (hs 1 rfl).trans h1
              replace h2 : R 2 = v2 := (hs 2 rfl).trans h2
              replace h3 : R 3 = (.pointer (some ⟨b3_0, 0, none⟩)) := (hs 3 rfl).trans h3
              replace h8 : R 8 = (.pointer (some ⟨b8_14, 0, none⟩)) := (hs 8 rfl).trans h8
              replace h9 : R 9 = .bool x12.2 := (hs 9 rfl).trans h9
              replace h12 : R 12 = u39 := (hs 12 rfl).trans h12
              have h15 : R 15 = .int .i64 (1 : Int) := hF' 0 _ _ rfl rfl rfl
              replace f_v2 := f_v2.fr hw
              replace hO := hO.fr hw
              replace hA := hA.fr hw.size
              replace hF := hF.trans hw
              clear hs hF' hw
              refine seqR_nil ?_
              refine HT.seq ?_
              obtain ⟨h88, l_h88, p_h88⟩ := ((tr_root (hO.own 2 _ rfl).2).ptr).open
              replace hO : IniOK [ob (.pointer (some ⟨b3_0, 0, none⟩)) (.box w0.heap.size 25 E_laws_SetIndex p0), ob (.pointer (some ⟨b8_14, 0, none⟩)) (.box w0.heap.size 30 E_impl_SetIndex x12.1), ⟨u39, S41, trR (geB w0.heap.size) (oPt 30 (oPr (oRd (eInt .i64)) (oPr (oSl 70 (oRd E_impl_TokenCount)) (oSl 55 (oPr (oRd (eInt .i64)) (oSl 9 (oRd eStr))))))) x31.1 [(u39, h88)]⟩] A w := hO.repin 2 rfl (trP.pin p_h88)
              obtain ⟨x90, q91, hr⟩ := cl_some hr
              refine HT.textR [ob (.pointer (some ⟨b3_0, 0, none⟩)) (.box w0.heap.size 25 E_laws_SetIndex p0), ob (.pointer (some ⟨b8_14, 0, none⟩)) (.box w0.heap.size 30 E_impl_SetIndex x12.1), ⟨u39, S41, trR (geB w0.heap.size) (oPt 30 (oPr (oRd (eInt .i64)) (oPr (oSl 70 (oRd E_impl_TokenCount)) (oSl 55 (oPr (oRd (eInt .i64)) (oSl 9 (oRd eStr))))))) x31.1 [(u39, h88)]⟩] (⟨_, true, [], none, true, fun A => .raw (Enc.val E_impl_SetIndex h88)⟩ :: ⟨_, true, [], none, true, fun A => .raw (.int .i64 (1 : Int))⟩ :: ⟨_, true, [2], some (trR (geB w0.heap.size) (oPt 30 (oPr (oRd (eInt .i64)) (oPr (oSl 70 (oRd E_impl_TokenCount)) (oSl 55 (oPr (oRd (eInt .i64)) (oSl 9 (oRd eStr))))))) x90.2 []), false, fun A => .raw (.int .i64 x90.1)⟩ :: ⟨_, true, [], none, true, fun A => .raw (.int .i64 x90.1)⟩ :: []) (by kernel_rfl) (by kernel_rfl) (Wf.mk' (by kernel_rfl) (UAll.cons ust_raw (UAll.cons ust_raw (UAll.cons ust_raw (UAll.cons ust_raw (UAll.nil))))) (by kernel_rfl) (by kernel_rfl)) hO hA ?_ ?_
              · exact
                  OblsR.cons (OblR.plain rfl rfl rfl rfl fun A' R' w' ho hd => by have a0 : R' 12 = u39 := (ho.old 12 rfl).trans h12; exact of_load_pinS (F := oPr (oRd (eInt .i64)) (oPr (oSl 70 (oRd E_impl_TokenCount)) (oSl 55 (oPr (oRd (eInt .i64)) (oSl 9 (oRd eStr)))))) ((ho.rdo 2 _ rfl rfl).2.2 _ (.head _)) l_h88 a0 Try.isAgg30 Try.sizeOf30) <|
                  OblsR.cons (OblR.plain rfl rfl rfl rfl fun A' R' w' ho hd => by have a0 : R' 15 = .int .i64 (1 : Int) := (ho.old 15 rfl).trans h15; exact of_move a0) <|
                  OblsR.cons (OblR.tookS 2 _ _ rfl rfl rfl rfl rfl fun A' R' w' ho hd u S hok hown hav hin hop hds => by have a0 : R' 87 = (Enc.val E_impl_SetIndex h88) := hd 0 _ _ _ rfl rfl rfl rfl rfl; have a1 : R' 88 = .int .i64 (1 : Int) := hd 1 _ _ _ rfl rfl rfl rfl rfl; have e0 := (hin _ rfl).1; rw [e0] at hown ⊢; have hu0 : evalR R' (.tmp 87) = (Enc.val E_impl_SetIndex h88) := a0; exact took_callT Try.call10 (((tr_root hown.2).ptr).pinS (hown.2.2 _ (.head _)) l_h88) hav hown.1 (fun k hk => Nat.le_trans (Nat.le_trans hF.size ho.ch.size) hk) (fun k hk => SP.lt _ hown.2 hk) (fun S1 hS1 hP => by simp only [List.map, hu0]; exact M_laws_markSetIndex_ok (q91 rfl) (ho.av.subS _) (fun b o h => h.2) hP a1) (fun _ _ _ h => h)) <|
                  OblsR.cons (OblR.plain rfl rfl rfl rfl fun A' R' w' ho hd => by have a0 : R' 89 = .int .i64 x90.1 := hd 0 _ _ _ rfl rfl rfl rfl rfl; exact of_assign a0) <|
                  OblsR.nil
              intro done ρ σ A R w hdn hI
              replace h1 : R 1 = .int .i64 p1 := (hI.reg rfl).trans h1
              replace h2 : R 2 = v2 := (hI.reg rfl).trans h2
              replace h3 : R 3 = (.pointer (some ⟨b3_0, 0, none⟩)) := (hI.reg rfl).trans h3
              replace h8 : R 8 = (.pointer (some ⟨b8_14, 0, none⟩)) := (hI.reg rfl).trans h8
              replace h9 : R 9 = .bool x12.2 := (hI.reg rfl).trans h9
              replace h12 : R 12 = u39 := (hI.reg rfl).trans h12
              have z92 := hI.inivR 0 rfl
              have z93 := hI.inivR 1 rfl
              have z94 := hI.inivR 2 rfl
              have z95 := (hI.opnR hdn 5 2 rfl rfl rfl rfl rfl).trans z94
              obtain ⟨S96, eS_u39⟩ : ∃ S, σ 5 = S := ⟨_, rfl⟩
              have h15 : R 15 = .int .i64 x90.1 := hI.fact hdn (i := 3) rfl rfl rfl
              replace f_v2 := f_v2.stp hI.stp
              replace hAA := hI.low' hAA hA0 (hO.ge (⟨rfl, ⟨rfl, ⟨fun _ h => h, trivial⟩⟩⟩))
              replace hF : Fr w0 w := hF.tr hI.ch (hO.ge (⟨rfl, ⟨rfl, ⟨fun _ h => h, trivial⟩⟩⟩))
              replace hO : IniOK [ob (.pointer (some ⟨b3_0, 0, none⟩)) (.box w0.heap.size 25 E_laws_SetIndex p0), ob (.pointer (some ⟨b8_14, 0, none⟩)) (.box w0.heap.size 30 E_impl_SetIndex x12.1), ⟨u39, S96, trR (geB w0.heap.size) (oPt 30 (oPr (oRd (eInt .i64)) (oPr (oSl 70 (oRd E_impl_TokenCount)) (oSl 55 (oPr (oRd (eInt .i64)) (oSl 9 (oRd eStr))))))) x90.2 []⟩] A w := hI.left hdn [(0, ob (.pointer (some ⟨b3_0, 0, none⟩)) (.box w0.heap.size 25 E_laws_SetIndex p0)), (1, ob (.pointer (some ⟨b8_14, 0, none⟩)) (.box w0.heap.size 30 E_impl_SetIndex x12.1)), (5, ⟨u39, S96, trR (geB w0.heap.size) (oPt 30 (oPr (oRd (eInt .i64)) (oPr (oSl 70 (oRd E_impl_TokenCount)) (oSl 55 (oPr (oRd (eInt .i64)) (oSl 9 (oRd eStr))))))) x90.2 []⟩)] ⟨rfl, rfl, z92, rfl, rfl, ⟨rfl, rfl, z93, rfl, rfl, ⟨rfl, rfl, z95, eS_u39, rfl, trivial⟩⟩⟩
              replace hA := hI.avok
              clear hI
              refine HT.seq ?_
              refine HT.text (l := ⟨_, true, .raw (.int .i64 (1 : Int))⟩ :: []) (tl := []) (by kernel_rfl) (by kernel_rfl) (by kernel_rfl) ?_ ?_
              · exact
                  Obls.cons (Obl.plain rfl rfl fun R' w' hw hs hd => by exact of_assign rfl) <|
                  Obls.nil
              intro R w hw hs hF'
              replace h1 : R 1 = .int .i64 p1 := (hs 1 rfl).trans h1
              replace h2 : R 2 = v2 := (hs 2 rfl).trans h2
              replace h3 : R 3 = (.pointer (some ⟨b3_0, 0, none⟩)) := (hs 3 rfl).trans h3
              replace h8 : R 8 = (.pointer (some ⟨b8_14, 0, none⟩)) := (hs 8 rfl).trans h8
              replace h9 : R 9 = .bool x12.2 := (hs 9 rfl).trans h9
              replace h12 : R 12 = u39 := (hs 12 rfl).trans h12
              replace h15 : R 15 = .int .i64 x90.1 := (hs 15 rfl).trans h15
              have h16 : R 16 = .int .i64 (1 : Int) := hF' 0 _ _ rfl rfl rfl
              replace f_v2 := f_v2.fr hw
              replace hO := hO.fr hw
              replace hA := hA.fr hw.size
              replace hF := hF.trans hw
              clear hs hF' hw
              refine seqR_nil ?_
              refine HT.seq ?_
              obtain ⟨h97, l_h97, p_h97⟩ := ((tr_root (hO.own 2 _ rfl).2).ptr).open
              replace hO : IniOK [ob (.pointer (some ⟨b3_0, 0, none⟩)) (.box w0.heap.size 25 E_laws_SetIndex p0), ob (.pointer (some ⟨b8_14, 0, none⟩)) (.box w0.heap.size 30 E_impl_SetIndex x12.1), ⟨u39, S96, trR (geB w0.heap.size) (oPt 30 (oPr (oRd (eInt .i64)) (oPr (oSl 70 (oRd E_impl_TokenCount)) (oSl 55 (oPr (oRd (eInt .i64)) (oSl 9 (oRd eStr))))))) x90.2 [(u39, h97)]⟩] A w := hO.repin 2 rfl (trP.pin p_h97)
              obtain ⟨x99, q100, hr⟩ := cl_some hr
              refine HT.text (l := ⟨_, true, .raw (Enc.val E_impl_SetIndex h97)⟩ :: ⟨_, true, .raw (.int .i64 (1 : Int))⟩ :: ⟨_, true, .raw (.int .i64 x99)⟩ :: ⟨_, true, .raw (.int .i64 x99)⟩ :: []) (tl := []) (by kernel_rfl) (by kernel_rfl) (by kernel_rfl) ?_ ?_
              · exact
                  Obls.cons (Obl.plain rfl rfl fun R' w' hw hs hd => by have a0 : R' 12 = u39 := (hs 12 rfl).trans h12; exact of_load_pinS (F := oPr (oRd (eInt .i64)) (oPr (oSl 70 (oRd E_impl_TokenCount)) (oSl 55 (oPr (oRd (eInt .i64)) (oSl 9 (oRd eStr)))))) (((hO.fr hw).own 2 _ rfl).2.2 _ (.head _)) l_h97 a0 Try.isAgg30 Try.sizeOf30) <|
                  Obls.cons (Obl.plain rfl rfl fun R' w' hw hs hd => by have a0 : R' 16 = .int .i64 (1 : Int) := (hs 16 rfl).trans h16; exact of_move a0) <|
                  Obls.cons (Obl.plain rfl rfl fun R' w' hw hs hd => by have a0 : R' 90 = (Enc.val E_impl_SetIndex h97) := hd 0 _ _ _ rfl rfl rfl rfl rfl; have ra0 : Rep E_impl_SetIndex A0 w' (R' 90) _ := (vh_rep (((tr_root ((hO.fr hw).own 2 _ rfl).2).ptr).pinS (((hO.fr hw).own 2 _ rfl).2.2 _ (.head _)) l_h97) hAA (fun k o hk ha => Nat.not_lt.2 (((hO.fr hw).own 2 _ rfl).1 k hk) (hA0 k o ha))).eq a0; have a1 : R' 91 = .int .i64 (1 : Int) := hd 1 _ _ _ rfl rfl rfl rfl rfl; exact of_call Try.call11 (M_laws_heldSetIndex_ok (q100 rfl) (hA00.fr ((Nat.le_trans hF.size hw.size))) ra0 a1)) <|
                  Obls.cons (Obl.plain rfl rfl fun R' w' hw hs hd => by have a0 : R' 92 = .int .i64 x99 := hd 0 _ _ _ rfl rfl rfl rfl rfl; exact of_assign a0) <|
                  Obls.nil
              intro R w hw hs hF'
              replace h1 : R 1 = .int .i64 p1 := (hs 1 rfl).trans h1
              replace h2 : R 2 = v2 := (hs 2 rfl).trans h2
              replace h3 : R 3 = (.pointer (some ⟨b3_0, 0, none⟩)) := (hs 3 rfl).trans h3
              replace h8 : R 8 = (.pointer (some ⟨b8_14, 0, none⟩)) := (hs 8 rfl).trans h8
              replace h9 : R 9 = .bool x12.2 := (hs 9 rfl).trans h9
              replace h12 : R 12 = u39 := (hs 12 rfl).trans h12
              replace h15 : R 15 = .int .i64 x90.1 := (hs 15 rfl).trans h15
              have h16 : R 16 = .int .i64 x99 := hF' 3 _ _ rfl rfl rfl
              replace f_v2 := f_v2.fr hw
              replace hO := hO.fr hw
              replace hA := hA.fr hw.size
              replace hF := hF.trans hw
              clear hs hF' hw
              refine seqR_nil ?_
              replace hO : IniOK [ob (.pointer (some ⟨b3_0, 0, none⟩)) (.box w0.heap.size 25 E_laws_SetIndex p0), ob (.pointer (some ⟨b8_14, 0, none⟩)) (.box w0.heap.size 30 E_impl_SetIndex x12.1), ⟨u39, S96, trR (geB w0.heap.size) (oPt 30 (oPr (oRd (eInt .i64)) (oPr (oSl 70 (oRd E_impl_TokenCount)) (oSl 55 (oPr (oRd (eInt .i64)) (oSl 9 (oRd eStr))))))) x90.2 []⟩] A w := hO.repin 2 rfl trP.nopin
              refine HT.seq ?_
              refine HT.seq ?_
              refine HT.text (l := ⟨_, true, .raw (.int .i64 x99)⟩ :: ⟨_, true, .raw (.bool (decide (x99 < (0 : Int))))⟩ :: []) (tl := []) (by kernel_rfl) (by kernel_rfl) (by kernel_rfl) ?_ ?_
              · exact
                  Obls.cons (Obl.plain rfl rfl fun R' w' hw hs hd => by have a0 : R' 16 = .int .i64 x99 := (hs 16 rfl).trans h16; exact of_move a0) <|
                  Obls.cons (Obl.plain rfl rfl fun R' w' hw hs hd => by have a0 : R' 93 = .int .i64 x99 := hd 0 _ _ _ rfl rfl rfl rfl rfl; exact of_lss a0 rfl) <|
                  Obls.nil
              intro R w hw hs hF'
              replace h1 : R 1 = .int .i64 p1 := (hs 1 rfl).trans h1
              replace h2 : R 2 = v2 := (hs 2 rfl).trans h2
              replace h3 : R 3 = (.pointer (some ⟨b3_0, 0, none⟩)) := (hs 3 rfl).trans h3
              replace h8 : R 8 = (.pointer (some ⟨b8_14, 0, none⟩)) := (hs 8 rfl).trans h8
              replace h9 : R 9 = .bool x12.2 := (hs 9 rfl).trans h9
              replace h12 : R 12 = u39 := (hs 12 rfl).trans h12
              replace h15 : R 15 = .int .i64 x90.1 := (hs 15 rfl).trans h15
              replace h16 : R 16 = .int .i64 x99 := (hs 16 rfl).trans h16
              have h94 : R 94 = .bool (decide (x99 < (0 : Int))) := hF' 1 _ _ rfl rfl rfl
              replace f_v2 := f_v2.fr hw
              replace hO := hO.fr hw
              replace hA := hA.fr hw.size
              replace hF := hF.trans hw
              clear hs hF' hw
              refine seqR_nil ?_
              refine HT.cond (decide (x99 < (0 : Int))) h94 (fun c101 => ?_) (fun c101 => ?_)
              · have hr := cnd_t c101 hr
                refine HT.seq ?_
                refine HT.text (l := ⟨_, true, .raw (.bool false)⟩ :: []) (tl := []) (by kernel_rfl) (by kernel_rfl) (by kernel_rfl) ?_ ?_
                · exact
                    Obls.cons (Obl.plain rfl rfl fun R' w' hw hs hd => by exact of_assign rfl) <|
                    Obls.nil
                intro R w hw hs hF'
                have h6 : R 6 = .bool false := hF' 0 _ _ rfl rfl rfl
                replace hO := hO.fr hw
                replace hO : IniOK [] A w := hO.sub [] trivial
                replace hA := hA.fr hw.size
                replace hF := hF.trans hw
                clear hs hF' hw
                refine seqR_nil ?_
                refine HT.ret ?_
                obtain rfl := Option.some.inj hr
                exact ⟨.inr rfl, [R 6], ⟨rfl, trivial⟩, h6, hF⟩
              · have hr := cnd_f c101 hr
                refine HT.skip ?_
                refine HT.seq ?_
                refine HT.seq ?_
                refine HT.text (l := ⟨_, true, .raw (.int .i64 x99)⟩ :: ⟨_, true, .raw (.int .i64 x90.1)⟩ :: ⟨_, true, .raw (.bool (x99 != x90.1))⟩ :: []) (tl := []) (by kernel_rfl) (by kernel_rfl) (by kernel_rfl) ?_ ?_
                · exact
                    Obls.cons (Obl.plain rfl rfl fun R' w' hw hs hd => by have a0 : R' 16 = .int .i64 x99 := (hs 16 rfl).trans h16; exact of_move a0) <|
                    Obls.cons (Obl.plain rfl rfl fun R' w' hw hs hd => by have a0 : R' 15 = .int .i64 x90.1 := (hs 15 rfl).trans h15; exact of_move a0) <|
                    Obls.cons (Obl.plain rfl rfl fun R' w' hw hs hd => by have a0 : R' 95 = .int .i64 x99 := hd 0 _ _ _ rfl rfl rfl rfl rfl; have a1 : R' 96 = .int .i64 x90.1 := hd 1 _ _ _ rfl rfl rfl rfl rfl; exact of_neq a0 a1) <|
                    Obls.nil
                intro R w hw hs hF'
                replace h1 : R 1 = .int .i64 p1 := (hs 1 rfl).trans h1
                replace h2 : R 2 = v2 := (hs 2 rfl).trans h2
                replace h3 : R 3 = (.pointer (some ⟨b3_0, 0, none⟩)) := (hs 3 rfl).trans h3
                replace h8 : R 8 = (.pointer (some ⟨b8_14, 0, none⟩)) := (hs 8 rfl).trans h8
                replace h9 : R 9 = .bool x12.2 := (hs 9 rfl).trans h9
                replace h12 : R 12 = u39 := (hs 12 rfl).trans h12
                replace h15 : R 15 = .int .i64 x90.1 := (hs 15 rfl).trans h15
                have h97 : R 97 = .bool (x99 != x90.1) := hF' 2 _ _ rfl rfl rfl
                replace f_v2 := f_v2.fr hw
                replace hO := hO.fr hw
                replace hA := hA.fr hw.size
                replace hF := hF.trans hw
                clear hs hF' hw
                refine seqR_nil ?_
                refine HT.cond (x99 != x90.1) h97 (fun c102 => ?_) (fun c102 => ?_)
                · have hr := cnd_t c102 hr
                  refine HT.seq ?_
                  refine HT.text (l := ⟨_, true, .raw (.bool false)⟩ :: []) (tl := []) (by kernel_rfl) (by kernel_rfl) (by kernel_rfl) ?_ ?_
                  · exact
                      Obls.cons (Obl.plain rfl rfl fun R' w' hw hs hd => by exact of_assign rfl) <|
                      Obls.nil
                  intro R w hw hs hF'
                  have h6 : R 6 = .bool false := hF' 0 _ _ rfl rfl rfl
                  replace hO := hO.fr hw
                  replace hO : IniOK [] A w := hO.sub [] trivial
                  replace hA := hA.fr hw.size
                  replace hF := hF.trans hw
                  clear hs hF' hw
                  refine seqR_nil ?_
                  refine HT.ret ?_
                  obtain rfl := Option.some.inj hr
                  exact ⟨.inr rfl, [R 6], ⟨rfl, trivial⟩, h6, hF⟩
                · have hr := cnd_f c102 hr
                  refine HT.skip ?_
                  refine HT.seq ?_
                  obtain ⟨x103, q104, hr⟩ := cl_some hr
                  obtain ⟨x105, q106, hr⟩ := cl_some hr
                  obtain ⟨x107, q108, hr⟩ := cl_some hr
                  refine HT.textR [ob (.pointer (some ⟨b3_0, 0, none⟩)) (.box w0.heap.size 25 E_laws_SetIndex p0), ob (.pointer (some ⟨b8_14, 0, none⟩)) (.box w0.heap.size 30 E_impl_SetIndex x12.1), ⟨u39, S96, trR (geB w0.heap.size) (oPt 30 (oPr (oRd (eInt .i64)) (oPr (oSl 70 (oRd E_impl_TokenCount)) (oSl 55 (oPr (oRd (eInt .i64)) (oSl 9 (oRd eStr))))))) x90.2 []⟩] (⟨_, true, [], none, true, fun A => .rep E_laws_SetIndex A p0⟩ :: ⟨_, true, [], none, true, fun A => .rep E_impl_SetIndex A x103⟩ :: ⟨_, true, [], none, true, fun A => .raw (.int .i64 p1)⟩ :: ⟨_, true, [], none, true, fun A => .raw v2⟩ :: ⟨_, true, [], none, true, fun A => .rep (eSl eStr) A x105⟩ :: ⟨_, true, [], none, true, fun A => .tup2 (.rep E_impl_SetIndex A x107.1) (.raw (.bool x107.2))⟩ :: ⟨_, true, [], none, true, fun A => .tup2 (.rep E_impl_SetIndex A x107.1) (.raw (.bool x107.2))⟩ :: ⟨_, true, [], none, true, fun A => .rep E_impl_SetIndex A x107.1⟩ :: ⟨_, true, [], none, true, fun A => .raw (.bool x107.2)⟩ :: ⟨_, true, [], some (.box w0.heap.size 30 E_impl_SetIndex ((0 : Int), (([] : List T_impl_TokenCount), ([] : List T_impl_IndexedSet)))), true, fun A => .any⟩ :: ⟨_, true, [12], some (.box w0.heap.size 30 E_impl_SetIndex x107.1), false, fun A => .any⟩ :: ⟨_, true, [], none, true, fun A => .raw (.bool x107.2)⟩ :: []) (by kernel_rfl) (by kernel_rfl) (Wf.mk' (by kernel_rfl) (UAll.cons ust_rep (UAll.cons ust_rep (UAll.cons ust_raw (UAll.cons ust_raw (UAll.cons ust_rep (UAll.cons (ust_tup2 ust_rep ust_raw) (UAll.cons (ust_tup2 ust_rep ust_raw) (UAll.cons ust_rep (UAll.cons ust_raw (UAll.cons ust_any (UAll.cons ust_any (UAll.cons ust_raw (UAll.nil))))))))))))) (by kernel_rfl) (by kernel_rfl)) hO hA ?_ ?_
                  · exact
                      OblsR.cons (OblR.plain rfl rfl rfl rfl fun A' R' w' ho hd => by have a0 : R' 3 = (.pointer (some ⟨b3_0, 0, none⟩)) := (ho.old 3 rfl).trans h3; exact (of_load_box (ho.rd 0 _ rfl rfl) a0 (Fld.id _) rfl Try.isAgg25 Try.sizeOf25)) <|
                      OblsR.cons (OblR.plain rfl rfl rfl rfl fun A' R' w' ho hd => by have a0 : Rep E_laws_SetIndex A' w' (R' 99) p0 := hd 0 _ _ _ rfl rfl rfl rfl rfl; exact of_call Try.call7 (M_laws_toSetIndex_okR (q104 rfl) ho.av a0)) <|
                      OblsR.cons (OblR.plain rfl rfl rfl rfl fun A' R' w' ho hd => by have a0 : R' 1 = .int .i64 p1 := (ho.old 1 rfl).trans h1; exact of_move a0) <|
                      OblsR.cons (OblR.plain rfl rfl rfl rfl fun A' R' w' ho hd => by have a0 : R' 2 = v2 := (ho.old 2 rfl).trans h2; exact of_move a0) <|
                      OblsR.cons (OblR.plain rfl rfl rfl rfl fun A' R' w' ho hd => by have a0 : R' 102 = v2 := hd 0 _ _ _ rfl rfl rfl rfl rfl; have ra0 := (f_v2.stp ho.stp).eq a0; exact of_call Try.call14 (M_laws_toStringS_okR (q106 rfl) ho.av ra0)) <|
                      OblsR.cons (OblR.plain rfl rfl rfl rfl fun A' R' w' ho hd => by have a0 : Rep E_impl_SetIndex A' w' (R' 100) x103 := hd 0 _ _ _ rfl rfl rfl rfl rfl; have a1 : R' 101 = .int .i64 p1 := hd 1 _ _ _ rfl rfl rfl rfl rfl; have a2 : Rep (eSl eStr) A' w' (R' 103) x105 := hd 2 _ _ _ rfl rfl rfl rfl rfl; exact of_call Try.call15 (M_impl_InsertSet_okR (q108 rfl) ho.av a0 a1 a2)) <|
                      OblsR.cons (OblR.plain rfl rfl rfl rfl fun A' R' w' ho hd => by have a0 : Fact.ok (.tup2 (.rep E_impl_SetIndex A' x107.1) (.raw (.bool x107.2))) (R' 104) w' := hd 0 _ _ _ rfl rfl rfl rfl rfl; exact of_move a0) <|
                      OblsR.cons (OblR.plain rfl rfl rfl rfl fun A' R' w' ho hd => by have a0 : Fact.ok (.tup2 (.rep E_impl_SetIndex A' x107.1) (.raw (.bool x107.2))) (R' 98) w' := hd 0 _ _ _ rfl rfl rfl rfl rfl; exact of_extract2_0 a0) <|
                      OblsR.cons (OblR.plain rfl rfl rfl rfl fun A' R' w' ho hd => by have a0 : Fact.ok (.tup2 (.rep E_impl_SetIndex A' x107.1) (.raw (.bool x107.2))) (R' 98) w' := hd 0 _ _ _ rfl rfl rfl rfl rfl; exact of_extract2_1 a0) <|
                      OblsR.cons (OblR.made _ rfl rfl rfl rfl fun A' R' w' ho hd => by exact made_alloc Try.zeroValue30 (fun A w => rep_pr rep1_int (rep_pr rep1_nil rep1_nil)) (Nat.le_trans hF.size ho.ch.size)) <|
                      OblsR.cons (OblR.took 12 _ _ rfl rfl rfl rfl rfl fun A' R' w' ho hd u hok hav hin hop hds => by have a1 : Rep E_impl_SetIndex A' w' (R' 105) x107.1 := hd 1 _ _ _ rfl rfl rfl rfl rfl; obtain ⟨b, hb, hB', hbx⟩ := hok; have hop' := hop _ _ rfl rfl rfl rfl; exact took_store a1 (hop'.symm.trans hb) hb ⟨b, hb, hB', hbx⟩ hav (FldS.id _) Try.sizeOf30 rfl) <|
                      OblsR.cons (OblR.plain rfl rfl rfl rfl fun A' R' w' ho hd => by have a0 : R' 106 = .bool x107.2 := hd 0 _ _ _ rfl rfl rfl rfl rfl; exact of_assign a0) <|
                      OblsR.nil
                  intro done ρ σ A R w hdn hI
                  replace h8 : R 8 = (.pointer (some ⟨b8_14, 0, none⟩)) := (hI.reg rfl).trans h8
                  replace h9 : R 9 = .bool x12.2 := (hI.reg rfl).trans h9
                  replace h12 : R 12 = u39 := (hI.reg rfl).trans h12
                  replace h15 : R 15 = .int .i64 x90.1 := (hI.reg rfl).trans h15
                  have z109 := hI.inivR 0 rfl
                  have z110 := hI.inivR 1 rfl
                  have z111 := hI.inivR 2 rfl
                  obtain ⟨b17_111, e_b17_111⟩ := hI.boxv hdn 13 rfl rfl
                  have z113 := (hI.opnR hdn 13 10 rfl rfl rfl rfl rfl).symm.trans e_b17_111
                  have h17 : R 17 = (.pointer (some ⟨b17_111, 0, none⟩)) := (hI.opvR hdn 12 9 rfl rfl rfl rfl rfl).symm.trans z113
                  have eS_u39 := hI.inisR 2 rfl
                  have h18 : R 18 = .bool x107.2 := hI.fact hdn (i := 11) rfl rfl rfl
                  replace hAA := hI.low' hAA hA0 (hO.ge (⟨rfl, ⟨rfl, ⟨fun _ h => h, trivial⟩⟩⟩))
                  replace hF : Fr w0 w := hF.tr hI.ch (hO.ge (⟨rfl, ⟨rfl, ⟨fun _ h => h, trivial⟩⟩⟩))
                  replace hO : IniOK [ob (.pointer (some ⟨b8_14, 0, none⟩)) (.box w0.heap.size 30 E_impl_SetIndex x12.1), ⟨u39, S96, trR (geB w0.heap.size) (oPt 30 (oPr (oRd (eInt .i64)) (oPr (oSl 70 (oRd E_impl_TokenCount)) (oSl 55 (oPr (oRd (eInt .i64)) (oSl 9 (oRd eStr))))))) x90.2 []⟩, ob (.pointer (some ⟨b17_111, 0, none⟩)) (.box w0.heap.size 30 E_impl_SetIndex x107.1)] A w := hI.left hdn [(1, ob (.pointer (some ⟨b8_14, 0, none⟩)) (.box w0.heap.size 30 E_impl_SetIndex x12.1)), (2, ⟨u39, S96, trR (geB w0.heap.size) (oPt 30 (oPr (oRd (eInt .i64)) (oPr (oSl 70 (oRd E_impl_TokenCount)) (oSl 55 (oPr (oRd (eInt .i64)) (oSl 9 (oRd eStr))))))) x90.2 []⟩), (13, ob (.pointer (some ⟨b17_111, 0, none⟩)) (.box w0.heap.size 30 E_impl_SetIndex x107.1))] ⟨rfl, rfl, z110, rfl, rfl, ⟨rfl, rfl, z111, eS_u39, rfl, ⟨rfl, rfl, e_b17_111, rfl, rfl, trivial⟩⟩⟩
                  replace hA := hI.avok
                  clear hI
                  refine HT.seq ?_
                  refine HT.seq ?_
                  obtain ⟨x114, q115, hr⟩ := cl_some hr
                  obtain ⟨x116, q117, hr⟩ := bd_some hr
                  refine HT.text (l := ⟨_, true, .rep E_impl_SetIndex A x107.1⟩ :: ⟨_, true, .rep E_impl_SetIndex A x12.1⟩ :: ⟨_, true, .raw (.bool x114)⟩ :: ⟨_, true, .raw (.bool (!x114))⟩ :: ⟨_, true, .raw (.bool (!x114))⟩ :: ⟨_, (true && ((!x114) == false)), .raw (.bool x107.2)⟩ :: ⟨_, (true && ((!x114) == false)), .raw (.bool x12.2)⟩ :: ⟨_, (true && ((!x114) == false)), .raw (.bool (x107.2 != x12.2))⟩ :: ⟨_, true, .raw (.bool x116)⟩ :: []) (tl := []) (by kernel_rfl) (by kernel_rfl) (by kernel_rfl) ?_ ?_
                  · exact
                      Obls.cons (Obl.plain rfl rfl fun R' w' hw hs hd => by have a0 : R' 17 = (.pointer (some ⟨b17_111, 0, none⟩)) := (hs 17 rfl).trans h17; exact (of_load_box ((hO.fr hw).ok 2 _ rfl).1 a0 (Fld.id _) rfl Try.isAgg30 Try.sizeOf30)) <|
                      Obls.cons (Obl.plain rfl rfl fun R' w' hw hs hd => by have a0 : R' 8 = (.pointer (some ⟨b8_14, 0, none⟩)) := (hs 8 rfl).trans h8; exact (of_load_box ((hO.fr hw).ok 0 _ rfl).1 a0 (Fld.id _) rfl Try.isAgg30 Try.sizeOf30)) <|
                      Obls.cons (Obl.plain rfl rfl fun R' w' hw hs hd => by have a0 : Rep E_impl_SetIndex A w' (R' 107) x107.1 := hd 0 _ _ _ rfl rfl rfl rfl rfl; have a1 : Rep E_impl_SetIndex A w' (R' 108) x12.1 := hd 1 _ _ _ rfl rfl rfl rfl rfl; exact of_call Try.call9 (M_laws_eqSetIndex_ok (q115 rfl) (hA.fr hw.size) a0 a1)) <|
                      Obls.cons (Obl.plain rfl rfl fun R' w' hw hs hd => by have a0 : R' 109 = .bool x114 := hd 0 _ _ _ rfl rfl rfl rfl rfl; exact of_not a0) <|
                      Obls.cons (Obl.plain rfl rfl fun R' w' hw hs hd => by have a0 : R' 110 = .bool (!x114) := hd 0 _ _ _ rfl rfl rfl rfl rfl; exact of_move a0) <|
                      Obls.cons (Obl.grd 4 false _ _ _ rfl rfl rfl rfl rfl (by kernel_rfl) fun hg R' w' hw hs hd => by have a0 : R' 18 = .bool x107.2 := (hs 18 rfl).trans h18; exact of_move a0) <|
                      Obls.cons (Obl.grd 4 false _ _ _ rfl rfl rfl rfl rfl (by kernel_rfl) fun hg R' w' hw hs hd => by have a0 : R' 9 = .bool x12.2 := (hs 9 rfl).trans h9; exact of_move a0) <|
                      Obls.cons (Obl.grd 4 false _ _ _ rfl rfl rfl rfl rfl (by kernel_rfl) fun hg R' w' hw hs hd => by have a0 : R' 112 = .bool x107.2 := hd 0 _ _ _ rfl rfl rfl rfl hg; have a1 : R' 113 = .bool x12.2 := hd 1 _ _ _ rfl rfl rfl rfl hg; exact of_bneq Try.underlying4 a0 a1) <|
                      Obls.cons (Obl.plain rfl rfl fun R' w' hw hs hd => by have a0 : R' 111 = .bool (!x114) := hd 0 _ _ _ rfl rfl rfl rfl rfl; exact of_pick (!x114) a0 (fun hc => by show _ = Value.bool x116; rw [q117, hc]; exact rfl) (fun hc => by have a2 : R' 114 = .bool (x107.2 != x12.2) := hd 1 _ _ _ rfl rfl rfl rfl (g_and rfl (beq_of hc)); show _ = Value.bool x116; rw [q117, hc]; exact a2)) <|
                      Obls.nil
                  intro R w hw hs hF'
                  replace h12 : R 12 = u39 := (hs 12 rfl).trans h12
                  replace h15 : R 15 = .int .i64 x90.1 := (hs 15 rfl).trans h15
                  have h115 : R 115 = .bool x116 := hF' 8 _ _ rfl rfl rfl
                  replace hO := hO.fr hw
                  replace hO : IniOK [⟨u39, S96, trR (geB w0.heap.size) (oPt 30 (oPr (oRd (eInt .i64)) (oPr (oSl 70 (oRd E_impl_TokenCount)) (oSl 55 (oPr (oRd (eInt .i64)) (oSl 9 (oRd eStr))))))) x90.2 []⟩] A w := hO.sub [(1, ⟨u39, S96, trR (geB w0.heap.size) (oPt 30 (oPr (oRd (eInt .i64)) (oPr (oSl 70 (oRd E_impl_TokenCount)) (oSl 55 (oPr (oRd (eInt .i64)) (oSl 9 (oRd eStr))))))) x90.2 []⟩)] ⟨rfl, rfl, trivial⟩
                  replace hA := hA.fr hw.size
                  replace hF := hF.trans hw
                  clear hs hF' hw
                  refine seqR_nil ?_
                  refine HT.cond x116 h115 (fun c118 => ?_) (fun c118 => ?_)
                  · have hr := cnd_t c118 hr
                    refine HT.seq ?_
                    refine HT.text (l := ⟨_, true, .raw (.bool false)⟩ :: []) (tl := []) (by kernel_rfl) (by kernel_rfl) (by kernel_rfl) ?_ ?_
                    · exact
                        Obls.cons (Obl.plain rfl rfl fun R' w' hw hs hd => by exact of_assign rfl) <|
                        Obls.nil
                    intro R w hw hs hF'
                    have h6 : R 6 = .bool false := hF' 0 _ _ rfl rfl rfl
                    replace hO := hO.fr hw
                    replace hO : IniOK [] A w := hO.sub [] trivial
                    replace hA := hA.fr hw.size
                    replace hF := hF.trans hw
                    clear hs hF' hw
                    refine seqR_nil ?_
                    refine HT.ret ?_
                    obtain rfl := Option.some.inj hr
                    exact ⟨.inr rfl, [R 6], ⟨rfl, trivial⟩, h6, hF⟩
                  · have hr := cnd_f c118 hr
                    refine HT.skip ?_
                    refine HT.seq ?_
                    refine HT.text (l := ⟨_, true, .raw (.int .i64 (1 : Int))⟩ :: []) (tl := []) (by kernel_rfl) (by kernel_rfl) (by kernel_rfl) ?_ ?_
                    · exact
                        Obls.cons (Obl.plain rfl rfl fun R' w' hw hs hd => by exact of_assign rfl) <|
                        Obls.nil
                    intro R w hw hs hF'
                    replace h12 : R 12 = u39 := (hs 12 rfl).trans h12
                    replace h15 : R 15 = .int .i64 x90.1 := (hs 15 rfl).trans h15
                    have h16 : R 16 = .int .i64 (1 : Int) := hF' 0 _ _ rfl rfl rfl
                    replace hO := hO.fr hw
                    replace hA := hA.fr hw.size
                    replace hF := hF.trans hw
                    clear hs hF' hw
                    refine seqR_nil ?_
                    refine HT.seq ?_
                    obtain ⟨x119, q120, hr⟩ := cl_some hr
                    refine HT.textR [⟨u39, S96, trR (geB w0.heap.size) (oPt 30 (oPr (oRd (eInt .i64)) (oPr (oSl 70 (oRd E_impl_TokenCount)) (oSl 55 (oPr (oRd (eInt .i64)) (oSl 9 (oRd eStr))))))) x90.2 []⟩] (⟨_, true, [0], some (.nul), false, fun A => .rep E_impl_SetIndex A x90.2⟩ :: ⟨_, true, [], none, true, fun A => .raw (.int .i64 (1 : Int))⟩ :: ⟨_, true, [], none, true, fun A => .raw (.int .i64 x119)⟩ :: ⟨_, true, [], none, true, fun A => .raw (.int .i64 x119)⟩ :: []) (by kernel_rfl) (by kernel_rfl) (Wf.mk' (by kernel_rfl) (UAll.cons ust_rep (UAll.cons ust_raw (UAll.cons ust_raw (UAll.cons ust_raw (UAll.nil))))) (by kernel_rfl) (by kernel_rfl)) hO hA ?_ ?_
                    · exact
                        OblsR.cons (OblR.tookS 0 .nul _ rfl rfl rfl rfl rfl fun A' R' w' ho hd u S hok hown hav hin hop hds => by have a0 : R' 12 = u39 := (ho.old 12 rfl).trans h12; exact frz_loadT hown.2 (a0.trans (hin _ rfl).1.symm) hav Try.isAgg30 Try.sizeOf30) <|
                        OblsR.cons (OblR.plain rfl rfl rfl rfl fun A' R' w' ho hd => by have a0 : R' 16 = .int .i64 (1 : Int) := (ho.old 16 rfl).trans h16; exact of_move a0) <|
                        OblsR.cons (OblR.plain rfl rfl rfl rfl fun A' R' w' ho hd => by have a0 : Rep E_impl_SetIndex A' w' (R' 116) x90.2 := hd 0 _ _ _ rfl rfl rfl rfl rfl; have a1 : R' 117 = .int .i64 (1 : Int) := hd 1 _ _ _ rfl rfl rfl rfl rfl; exact of_call Try.call11 (M_laws_heldSetIndex_ok (q120 rfl) ho.av a0 a1)) <|
                        OblsR.cons (OblR.plain rfl rfl rfl rfl fun A' R' w' ho hd => by have a0 : R' 118 = .int .i64 x119 := hd 0 _ _ _ rfl rfl rfl rfl rfl; exact of_assign a0) <|
                        OblsR.nil
                    intro done ρ σ A R w hdn hI
                    replace h15 : R 15 = .int .i64 x90.1 := (hI.reg rfl).trans h15
                    have h16 : R 16 = .int .i64 x119 := hI.fact hdn (i := 3) rfl rfl rfl
                    replace hAA := hI.low' hAA hA0 (hO.ge (⟨fun _ h => h, trivial⟩))
                    replace hF : Fr w0 w := hF.tr hI.ch (hO.ge (⟨fun _ h => h, trivial⟩))
                    replace hO : IniOK [] A w := hI.left hdn [] trivial
                    replace hA := hI.avok
                    clear hI
                    refine HT.seq ?_
                    refine HT.seq ?_
                    refine HT.text (l := ⟨_, true, .raw (.int .i64 x119)⟩ :: ⟨_, true, .raw (.bool (decide (x119 < (0 : Int))))⟩ :: []) (tl := []) (by kernel_rfl) (by kernel_rfl) (by kernel_rfl) ?_ ?_
                    · exact
                        Obls.cons (Obl.plain rfl rfl fun R' w' hw hs hd => by have a0 : R' 16 = .int .i64 x119 := (hs 16 rfl).trans h16; exact of_move a0) <|
                        Obls.cons (Obl.plain rfl rfl fun R' w' hw hs hd => by have a0 : R' 119 = .int .i64 x119 := hd 0 _ _ _ rfl rfl rfl rfl rfl; exact of_lss a0 rfl) <|
                        Obls.nil
                    intro R w hw hs hF'
                    replace h15 : R 15 = .int .i64 x90.1 := (hs 15 rfl).trans h15
                    replace h16 : R 16 = .int .i64 x119 := (hs 16 rfl).trans h16
                    have h120 : R 120 = .bool (decide (x119 < (0 : Int))) := hF' 1 _ _ rfl rfl rfl
                    replace hO := hO.fr hw
                    replace hA := hA.fr hw.size
                    replace hF := hF.trans hw
                    clear hs hF' hw
                    refine seqR_nil ?_
                    refine HT.cond (decide (x119 < (0 : Int))) h120 (fun c121 => ?_) (fun c121 => ?_)
                    · have hr := cnd_t c121 hr
                      refine HT.seq ?_
                      refine HT.text (l := ⟨_, true, .raw (.bool false)⟩ :: []) (tl := []) (by kernel_rfl) (by kernel_rfl) (by kernel_rfl) ?_ ?_
                      · exact
                          Obls.cons (Obl.plain rfl rfl fun R' w' hw hs hd => by exact of_assign rfl) <|
                          Obls.nil
                      intro R w hw hs hF'
                      have h6 : R 6 = .bool false := hF' 0 _ _ rfl rfl rfl
                      replace hO := hO.fr hw
                      replace hA := hA.fr hw.size
                      replace hF := hF.trans hw
                      clear hs hF' hw
                      refine seqR_nil ?_
                      refine HT.ret ?_
                      obtain rfl := Option.some.inj hr
                      exact ⟨.inr rfl, [R 6], ⟨rfl, trivial⟩, h6, hF⟩
                    · have hr := cnd_f c121 hr
                      refine HT.skip ?_
                      refine HT.seq ?_
                      refine HT.seq ?_
                      refine HT.text (l := ⟨_, true, .raw (.int .i64 x119)⟩ :: ⟨_, true, .raw (.int .i64 x90.1)⟩ :: ⟨_, true, .raw (.bool (x119 != x90.1))⟩ :: []) (tl := []) (by kernel_rfl) (by kernel_rfl) (by kernel_rfl) ?_ ?_
                      · exact
                          Obls.cons (Obl.plain rfl rfl fun R' w' hw hs hd => by have a0 : R' 16 = .int .i64 x119 := (hs 16 rfl).trans h16; exact of_move a0) <|
                          Obls.cons (Obl.plain rfl rfl fun R' w' hw hs hd => by have a0 : R' 15 = .int .i64 x90.1 := (hs 15 rfl).trans h15; exact of_move a0) <|
                          Obls.cons (Obl.plain rfl rfl fun R' w' hw hs hd => by have a0 : R' 121 = .int .i64 x119 := hd 0 _ _ _ rfl rfl rfl rfl rfl; have a1 : R' 122 = .int .i64 x90.1 := hd 1 _ _ _ rfl rfl rfl rfl rfl; exact of_neq a0 a1) <|
                          Obls.nil
                      intro R w hw hs hF'
                      have h123 : R 123 = .bool (x119 != x90.1) := hF' 2 _ _ rfl rfl rfl
                      replace hO := hO.fr hw
                      replace hA := hA.fr hw.size
                      replace hF := hF.trans hw
                      clear hs hF' hw
                      refine seqR_nil ?_
                      refine HT.cond (x119 != x90.1) h123 (fun c122 => ?_) (fun c122 => ?_)
                      · have hr := cnd_t c122 hr
                        refine HT.seq ?_
                        refine HT.text (l := ⟨_, true, .raw (.bool false)⟩ :: []) (tl := []) (by kernel_rfl) (by kernel_rfl) (by kernel_rfl) ?_ ?_
                        · exact
                            Obls.cons (Obl.plain rfl rfl fun R' w' hw hs hd => by exact of_assign rfl) <|
                            Obls.nil
                        intro R w hw hs hF'
                        have h6 : R 6 = .bool false := hF' 0 _ _ rfl rfl rfl
                        replace hO := hO.fr hw
                        replace hA := hA.fr hw.size
                        replace hF := hF.trans hw
                        clear hs hF' hw
                        refine seqR_nil ?_
                        refine HT.ret ?_
                        obtain rfl := Option.some.inj hr
                        exact ⟨.inr rfl, [R 6], ⟨rfl, trivial⟩, h6, hF⟩
                      · have hr := cnd_f c122 hr
                        refine HT.skip ?_
                        refine HT.seq ?_
                        refine HT.text (l := ⟨_, true, .raw (.bool true)⟩ :: []) (tl := []) (by kernel_rfl) (by kernel_rfl) (by kernel_rfl) ?_ ?_
                        · exact
                            Obls.cons (Obl.plain rfl rfl fun R' w' hw hs hd => by exact of_assign rfl) <|
                            Obls.nil
                        intro R w hw hs hF'
                        have h6 : R 6 = .bool true := hF' 0 _ _ rfl rfl rfl
                        replace hO := hO.fr hw
                        replace hA := hA.fr hw.size
                        replace hF := hF.trans hw
                        clear hs hF' hw
                        refine seqR_nil ?_
                        refine HT.ret ?_
                        obtain rfl := Option.some.inj hr
                        exact ⟨.inr rfl, [R 6], ⟨rfl, trivial⟩, h6, hF⟩
end Go.Proofs.Ytmgiijdejigdhaa
