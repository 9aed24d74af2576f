/- Printed by dec.py: plain functions and the proofs that the code computes them. No statement of the seat is proved here. -/
import Derived.Test.YtfcocbokgfmjfaaB2
namespace Go.Proofs.Ytfcocbokgfmjfaa
open Go.RowKit
set_option linter.unusedVariables false
def M_spec_SearchSets_L0 (fu : Nat) (p0 : T_impl_SetIndex) (p1 : List (List UInt8)) : Nat → Int → (List Int) → Option (List Int)
  | 0, _, _ => none
  | k + 1, y7, y8 =>
    cl (true && ((decide (y7 < (p0.2.2.length : Int))) == true)) (M_spec_IsValidSetIndex fu p0) fun x9 =>
    bd ((decide (y7 < (p0.2.2.length : Int))) && x9) fun x11 =>
    bif x11 then (
      ck (inR y7 p0.2.2.length) <|
      cl true (M_spec_MeetsJaccard fu ((gtD p0.2.2 y7).2) p1 p0.1) fun x15 =>
      bif x15 then (
        ck (inR y7 p0.2.2.length) <|
        ck (lenOK (y8.length + ([(gtD p0.2.2 y7).1] : List Int).length)) <|
        ck (i64B (y7 + (1 : Int))) <|
        M_spec_SearchSets_L0 fu p0 p1 k (y7 + (1 : Int)) (y8 ++ ([(gtD p0.2.2 y7).1] : List Int))
      ) else (
        ck (i64B (y7 + (1 : Int))) <|
        M_spec_SearchSets_L0 fu p0 p1 k (y7 + (1 : Int)) y8
      )
    ) else (
      some y8
    )
def M_spec_SearchSets (fu : Nat) (p0 : T_impl_SetIndex) (p1 : List (List UInt8)) : Option (List Int) :=
  cl true (M_spec_SearchSets_L0 fu p0 p1 fu (0 : Int) ([] : List Int)) fun s6 =>
  some s6
set_option maxRecDepth 100000 in
set_option maxHeartbeats 4000000 in
theorem M_spec_SearchSets_ok {fu : Nat} {A0 : Av} {p0 : T_impl_SetIndex} {p1 : List (List UInt8)} {r : List Int} (hr : M_spec_SearchSets fu p0 p1 = some r) {w : World} {v0 : Value} {v1 : Value} (hA : AvOK A0 w) (h0 : Rep E_impl_SetIndex A0 w v0 p0) (h1 : Rep (eSl eStr) A0 w v1 p1) :
    Calls Try.prog 46 #[v0, v1] w fun e w' => ∃ v, e = .returned v ∧ ((Res.vec w.heap.size 3 (eInt .i64) r).ok (addA A0 v) v w' ∧ Fr w w') := by
  unfold M_spec_SearchSets at hr
  obtain ⟨w0, hw0⟩ : ∃ w0, w0 = w := ⟨_, rfl⟩
  have hF : Fr w0 w := hw0 ▸ Fr.refl _
  have hA0 : ∀ b o, A0 b o → b < w0.heap.size := fun b o h => hw0 ▸ hA b o h
  have hA00 : AvOK A0 w0 := hA0
  rw [show w.heap.size = w0.heap.size from hw0 ▸ rfl]
  rw [show Fr w = Fr w0 from hw0 ▸ rfl]
  clear hw0
  obtain ⟨A, hAe⟩ : ∃ A, A = A0 := ⟨_, rfl⟩
  have hAA : ∀ b o, A0 b o → A b o := fun b o h => hAe ▸ h
  replace hA : AvOK A w := hAe ▸ hA
  have hO : IniOK [] A w := IniOK.nil
  refine calls_of_HT2 [.tmp 4] Try.func46 Try.ntmps46 (by decide) rfl rfl (Nat.le_of_ble_eq_true rfl) ?_
  intro R hR
  have f_v0 : Rep E_impl_SetIndex A w v0 p0 := hAe ▸ h0
  replace h0 : R 0 = v0 := hR 0 _ rfl
  have f_v1 : Rep (eSl eStr) A w v1 p1 := hAe ▸ h1
  replace h1 : R 1 = v1 := hR 1 _ rfl
  clear hR hAe
  refine HT.seq ?_
  refine HT.textR [] (⟨_, true, [], some (.box w0.heap.size 49 E_impl_SetIndex p0), true, fun A => .any⟩ :: ⟨_, true, [], none, true, fun A => .any⟩ :: []) (by kernel_rfl) (by kernel_rfl) (Wf.mk' (by kernel_rfl) (UAll.cons ust_any (UAll.cons ust_any (UAll.nil))) (by kernel_rfl) (by kernel_rfl)) hO hA ?_ ?_
  · exact
      OblsR.cons (OblR.made _ rfl rfl rfl rfl fun A' R' w' ho hd => by have a0 : R' 0 = v0 := (ho.old 0 rfl).trans h0; have ra0 := (f_v0.stp ho.stp).eq a0; exact made_box ra0 (Nat.le_trans hF.size ho.ch.size)) <|
      OblsR.cons (OblR.plain rfl rfl rfl rfl fun A' R' w' ho hd => by exact of_assign trivial) <|
      OblsR.nil
  intro done ρ σ A R w hdn hI
  replace h1 : R 1 = v1 := (hI.reg rfl).trans h1
  obtain ⟨b2_0, e_b2_0⟩ := hI.boxv hdn 0 rfl rfl
  have h2 : R 2 = (.pointer (some ⟨b2_0, 0, none⟩)) := (hI.opvR hdn 0 0 rfl rfl rfl rfl rfl).symm.trans e_b2_0
  replace f_v1 := f_v1.stp hI.stp
  replace hAA := hI.low' hAA hA0 (hO.ge (trivial))
  replace hF : Fr w0 w := hF.tr hI.ch (hO.ge (trivial))
  replace hO : IniOK [ob (.pointer (some ⟨b2_0, 0, none⟩)) (.box w0.heap.size 49 E_impl_SetIndex p0)] A w := hI.left hdn [(0, ob (.pointer (some ⟨b2_0, 0, none⟩)) (.box w0.heap.size 49 E_impl_SetIndex p0))] ⟨rfl, rfl, e_b2_0, rfl, rfl, trivial⟩
  replace hA := hI.avok
  clear hI
  refine HT.seq ?_
  refine HT.textR [ob (.pointer (some ⟨b2_0, 0, none⟩)) (.box w0.heap.size 49 E_impl_SetIndex p0)] (⟨_, true, [], some (.vec w0.heap.size 3 (eInt .i64) ([] : List Int)), true, fun A => .any⟩ :: ⟨_, true, [1], some (.vec w0.heap.size 3 (eInt .i64) ([] : List Int)), true, fun A => .any⟩ :: []) (by kernel_rfl) (by kernel_rfl) (Wf.mk' (by kernel_rfl) (UAll.cons ust_any (UAll.cons ust_any (UAll.nil))) (by kernel_rfl) (by kernel_rfl)) hO hA ?_ ?_
  · exact
      OblsR.cons (OblR.made _ rfl rfl rfl rfl fun A' R' w' ho hd => by exact made_build [] (E := eInt .i64) trivial Try.underlying61 Try.sizeOf3 Try.zeroValue3 rfl rfl rfl (Nat.le_trans hF.size ho.ch.size)) <|
      OblsR.cons (OblR.took 1 _ _ rfl rfl rfl rfl rfl fun A' R' w' ho hd u hok hav hin hop hds => by exact took_assign (hop _ _ rfl rfl rfl rfl).symm hok hav) <|
      OblsR.nil
  intro done ρ σ A R w hdn hI
  replace h1 : R 1 = v1 := (hI.reg rfl).trans h1
  replace h2 : R 2 = (.pointer (some ⟨b2_0, 0, none⟩)) := (hI.reg rfl).trans h2
  have z2 := hI.inivR 0 rfl
  obtain ⟨u3, e_u3⟩ : ∃ u, ρ 2 = u := ⟨_, rfl⟩
  have h5 : R 5 = u3 := (hI.opvR hdn 2 1 rfl rfl rfl rfl rfl).symm.trans e_u3
  replace f_v1 := f_v1.stp hI.stp
  replace hAA := hI.low' hAA hA0 (hO.ge (⟨rfl, trivial⟩))
  replace hF : Fr w0 w := hF.tr hI.ch (hO.ge (⟨rfl, trivial⟩))
  replace hO : IniOK [ob (.pointer (some ⟨b2_0, 0, none⟩)) (.box w0.heap.size 49 E_impl_SetIndex p0), ob u3 (.vec w0.heap.size 3 (eInt .i64) ([] : List Int))] A w := hI.left hdn [(0, ob (.pointer (some ⟨b2_0, 0, none⟩)) (.box w0.heap.size 49 E_impl_SetIndex p0)), (2, ob u3 (.vec w0.heap.size 3 (eInt .i64) ([] : List Int)))] ⟨rfl, rfl, z2, rfl, rfl, ⟨rfl, rfl, e_u3, rfl, rfl, trivial⟩⟩
  replace hA := hI.avok
  clear hI
  refine HT.seq ?_
  refine HT.seq ?_
  refine HT.text (l := ⟨_, true, .raw (.int .i64 (0 : Int))⟩ :: []) (tl := []) (by kernel_rfl) (by kernel_rfl) (by kernel_rfl) ?_ ?_
  · exact
      Obls.cons (Obl.plain rfl rfl fun R' w' hw hs hd => by exact of_assign rfl) <|
      Obls.nil
  intro R w hw hs hF'
  replace h1 : R 1 = v1 := (hs 1 rfl).trans h1
  replace h2 : R 2 = (.pointer (some ⟨b2_0, 0, none⟩)) := (hs 2 rfl).trans h2
  replace h5 : R 5 = u3 := (hs 5 rfl).trans h5
  have h6 : R 6 = .int .i64 (0 : Int) := hF' 0 _ _ rfl rfl rfl
  replace f_v1 := f_v1.fr hw
  replace hO := hO.fr hw
  replace hA := hA.fr hw.size
  replace hF := hF.trans hw
  clear hs hF' hw
  refine seqR_nil ?_
  obtain ⟨rl4, q5, hr⟩ := cl_some hr
  replace q5 := q5 rfl
  refine HT.cut0 (fun R w => ∃ A : Av, ∃ (s6 : (List Int)) (uo_u3 : Value), rl4 = s6 ∧ AvOK A w ∧ Fr w0 w ∧ (∀ b o, A0 b o → A b o) ∧ IniOK [ob uo_u3 (.vec w0.heap.size 3 (eInt .i64) s6)] A w ∧ R 5 = uo_u3) ?_ ?_
  · refine HT.block ?_
    refine HT.loop (fun k R w => ∃ A : Av, ∃ (y7 : Int) (y8 : List Int) (ul_u3 : Value), M_spec_SearchSets_L0 fu p0 p1 k y7 y8 = some rl4 ∧ AvOK A w ∧ Fr w0 w ∧ (∀ b o, A0 b o → A b o) ∧ IniOK [ob (.pointer (some ⟨b2_0, 0, none⟩)) (.box w0.heap.size 49 E_impl_SetIndex p0), ob ul_u3 (.vec w0.heap.size 3 (eInt .i64) y8)] A w ∧ R 1 = v1 ∧ R 2 = (.pointer (some ⟨b2_0, 0, none⟩)) ∧ R 5 = ul_u3 ∧ R 6 = .int .i64 y7 ∧ Rep (eSl eStr) A w v1 p1) fu ⟨_, _, _, u3, q5, hA, hF, hAA, hO, h1, h2, h5, h6, f_v1⟩ ?_
    have hr0 := hr; clear hr q5
    rintro k R w ⟨A, y7, y8, ul_u3, hr, hA, hF, hAA, hO, h1, h2, h5, h6, f_v1⟩
    rcases k with _ | k
    · cases (show none = some _ from hr)
    rw [M_spec_SearchSets_L0] at hr
    refine HT.seq ?_
    refine HT.seq ?_
    obtain ⟨x9, q10, hr⟩ := cl_some hr
    obtain ⟨x11, q12, hr⟩ := bd_some hr
    refine HT.text (l := ⟨_, true, .raw (.int .i64 y7)⟩ :: ⟨_, true, .raw (.pointer (some ⟨b2_0, 2, none⟩))⟩ :: ⟨_, true, .rep (eSl E_impl_IndexedSet) A p0.2.2⟩ :: ⟨_, true, .raw (.int .i64 (p0.2.2.length : Int))⟩ :: ⟨_, true, .raw (.bool (decide (y7 < (p0.2.2.length : Int))))⟩ :: ⟨_, true, .raw (.bool (decide (y7 < (p0.2.2.length : Int))))⟩ :: ⟨_, (true && ((decide (y7 < (p0.2.2.length : Int))) == true)), .rep E_impl_SetIndex A p0⟩ :: ⟨_, (true && ((decide (y7 < (p0.2.2.length : Int))) == true)), .raw (.bool x9)⟩ :: ⟨_, true, .raw (.bool x11)⟩ :: []) (tl := []) (by kernel_rfl) (by kernel_rfl) (by kernel_rfl) ?_ ?_
    · exact
        Obls.cons (Obl.plain rfl rfl fun R' w' hw hs hd => by have a0 : R' 6 = .int .i64 y7 := (hs 6 rfl).trans h6; exact of_move a0) <|
        Obls.cons (Obl.plain rfl rfl fun R' w' hw hs hd => by have a0 : R' 2 = (.pointer (some ⟨b2_0, 0, none⟩)) := (hs 2 rfl).trans h2; exact of_fieldAddr_raw a0 ff_49_2 Try.sizeOf47 (by decide) rfl) <|
        Obls.cons (Obl.plain rfl rfl fun R' w' hw hs hd => by have a0 : R' 9 = (.pointer (some ⟨b2_0, 2, none⟩)) := hd 0 _ _ _ rfl rfl rfl rfl rfl; exact (of_load_box ((hO.fr hw).ok 0 _ rfl).1 a0 fl_impl_SetIndex_2 rfl Try.isAgg47 Try.sizeOf47)) <|
        Obls.cons (Obl.plain rfl rfl fun R' w' hw hs hd => by have a0 : Rep (eSl E_impl_IndexedSet) A w' (R' 10) p0.2.2 := hd 0 _ _ _ rfl rfl rfl rfl rfl; exact of_len_sl (aT := #[]) a0 Try.underlying47) <|
        Obls.cons (Obl.plain rfl rfl fun R' w' hw hs hd => by have a0 : R' 8 = .int .i64 y7 := hd 0 _ _ _ rfl rfl rfl rfl rfl; have a1 : R' 11 = .int .i64 (p0.2.2.length : Int) := hd 1 _ _ _ rfl rfl rfl rfl rfl; exact of_lss a0 a1) <|
        Obls.cons (Obl.plain rfl rfl fun R' w' hw hs hd => by have a0 : R' 12 = .bool (decide (y7 < (p0.2.2.length : Int))) := hd 0 _ _ _ rfl rfl rfl rfl rfl; exact of_move a0) <|
        Obls.cons (Obl.grd 5 true _ _ _ rfl rfl rfl rfl rfl (by kernel_rfl) fun hg R' w' hw hs hd => by have a0 : R' 2 = (.pointer (some ⟨b2_0, 0, none⟩)) := (hs 2 rfl).trans h2; exact (of_load_box ((hO.fr hw).ok 0 _ rfl).1 a0 (Fld.id _) rfl Try.isAgg49 Try.sizeOf49)) <|
        Obls.cons (Obl.grd 5 true _ _ _ rfl rfl rfl rfl rfl (by kernel_rfl) fun hg R' w' hw hs hd => by have a0 : Rep E_impl_SetIndex A w' (R' 14) p0 := hd 0 _ _ _ rfl rfl rfl rfl hg; exact of_call Try.call34 (M_spec_IsValidSetIndex_ok (q10 hg) (hA.fr hw.size) a0)) <|
        Obls.cons (Obl.plain rfl rfl fun R' w' hw hs hd => by have a0 : R' 13 = .bool (decide (y7 < (p0.2.2.length : Int))) := hd 0 _ _ _ rfl rfl rfl rfl rfl; exact of_pick (decide (y7 < (p0.2.2.length : Int))) a0 (fun hc => by have a1 : R' 15 = .bool x9 := hd 1 _ _ _ rfl rfl rfl rfl (g_and rfl (beq_of hc)); show _ = Value.bool x11; rw [q12, hc]; exact a1) (fun hc => by show _ = Value.bool x11; rw [q12, hc]; exact rfl)) <|
        Obls.nil
    intro R w hw hs hF'
    replace h1 : R 1 = v1 := (hs 1 rfl).trans h1
    replace h2 : R 2 = (.pointer (some ⟨b2_0, 0, none⟩)) := (hs 2 rfl).trans h2
    replace h5 : R 5 = ul_u3 := (hs 5 rfl).trans h5
    replace h6 : R 6 = .int .i64 y7 := (hs 6 rfl).trans h6
    have h16 : R 16 = .bool x11 := hF' 8 _ _ rfl rfl rfl
    replace f_v1 := f_v1.fr hw
    replace hO := hO.fr hw
    replace hA := hA.fr hw.size
    replace hF := hF.trans hw
    clear hs hF' hw
    refine seqR_nil ?_
    refine HT.cond x11 h16 (fun c13 => ?_) (fun c13 => ?_)
    · have hr := cnd_t c13 hr
      refine HT.skip ?_
      refine HT.seq ?_
      refine HT.block ?_
      refine HT.seq ?_
      obtain ⟨e14, hr⟩ := ck_some hr
      obtain ⟨x15, q16, hr⟩ := cl_some hr
      refine HT.draw (by kernel_rfl) (l := ⟨_, true, .raw (.pointer (some ⟨b2_0, 2, none⟩))⟩ :: ⟨_, true, .rep (eSl E_impl_IndexedSet) A p0.2.2⟩ :: ⟨_, true, .raw (.int .i64 y7)⟩ :: ⟨_, true, .qtr E_impl_IndexedSet A (gtD p0.2.2 y7)⟩ :: ⟨_, true, .qtr (eSl eStr) A ((gtD p0.2.2 y7).2)⟩ :: ⟨_, true, .rep (eSl eStr) A ((gtD p0.2.2 y7).2)⟩ :: ⟨_, true, .raw v1⟩ :: ⟨_, true, .raw (.pointer (some ⟨b2_0, 0, none⟩))⟩ :: ⟨_, true, .raw (.int .i64 p0.1)⟩ :: ⟨_, true, .raw (.bool x15)⟩ :: []) (tl := []) (by kernel_rfl) (by kernel_rfl) (by kernel_rfl) (by kernel_rfl) ?_ ?_
      · exact
          Obls.cons (Obl.plain rfl rfl fun R' w' hw hs hd => by have a0 : R' 2 = (.pointer (some ⟨b2_0, 0, none⟩)) := (hs 2 rfl).trans h2; exact of_fieldAddr_raw a0 ff_49_2 Try.sizeOf47 (by decide) rfl) <|
          Obls.cons (Obl.plain rfl rfl fun R' w' hw hs hd => by have a0 : R' 19 = (.pointer (some ⟨b2_0, 2, none⟩)) := hd 0 _ _ _ rfl rfl rfl rfl rfl; exact (of_load_box ((hO.fr hw).ok 0 _ rfl).1 a0 fl_impl_SetIndex_2 rfl Try.isAgg47 Try.sizeOf47)) <|
          Obls.cons (Obl.plain rfl rfl fun R' w' hw hs hd => by have a0 : R' 6 = .int .i64 y7 := (hs 6 rfl).trans h6; exact of_move a0) <|
          Obls.cons (Obl.plain rfl rfl fun R' w' hw hs hd => by have a0 : Rep (eSl E_impl_IndexedSet) A w' (R' 20) p0.2.2 := hd 0 _ _ _ rfl rfl rfl rfl rfl; have a1 : R' 21 = .int .i64 y7 := hd 1 _ _ _ rfl rfl rfl rfl rfl; exact of_indexAddr a0 a1 Try.underlying47 Try.sizeOf91 e14) <|
          Obls.cons (Obl.plain rfl rfl fun R' w' hw hs hd => by have a0 : QRep E_impl_IndexedSet A w' (R' 22) (gtD p0.2.2 y7) := hd 0 _ _ _ rfl rfl rfl rfl rfl; exact of_fieldAddr_q a0 ff_91_1 Try.sizeOf23 (by decide) fl_impl_IndexedSet_1 rfl) <|
          Obls.cons (Obl.plain rfl rfl fun R' w' hw hs hd => by have a0 : QRep (eSl eStr) A w' (R' 23) ((gtD p0.2.2 y7).2) := hd 0 _ _ _ rfl rfl rfl rfl rfl; exact (of_load a0.ptr Try.isAgg23 Try.sizeOf23)) <|
          Obls.cons (Obl.plain rfl rfl fun R' w' hw hs hd => by have a0 : R' 1 = v1 := (hs 1 rfl).trans h1; exact of_move a0) <|
          Obls.cons (Obl.plain rfl rfl fun R' w' hw hs hd => by have a0 : R' 2 = (.pointer (some ⟨b2_0, 0, none⟩)) := (hs 2 rfl).trans h2; exact of_fieldAddr_raw a0 ff_49_0 Try.sizeOf3 (by decide) rfl) <|
          Obls.cons (Obl.plain rfl rfl fun R' w' hw hs hd => by have a0 : R' 26 = (.pointer (some ⟨b2_0, 0, none⟩)) := hd 0 _ _ _ rfl rfl rfl rfl rfl; exact OpF.int (of_load_box ((hO.fr hw).ok 0 _ rfl).1 a0 fl_impl_SetIndex_0 rfl Try.isAgg3 Try.sizeOf3)) <|
          Obls.cons (Obl.plain rfl rfl fun R' w' hw hs hd => by have a0 : Rep (eSl eStr) A w' (R' 24) ((gtD p0.2.2 y7).2) := hd 0 _ _ _ rfl rfl rfl rfl rfl; have a1 : R' 25 = v1 := hd 1 _ _ _ rfl rfl rfl rfl rfl; have ra1 := (f_v1.fr hw).eq a1; have a2 : R' 27 = .int .i64 p0.1 := hd 2 _ _ _ rfl rfl rfl rfl rfl; exact of_call Try.call95 (M_spec_MeetsJaccard_ok (q16 rfl) (hA.fr hw.size) a0 ra1 a2)) <|
          Obls.nil
      intro R w hw hs hF'
      replace h1 : R 1 = v1 := (hs 1 rfl).trans h1
      replace h2 : R 2 = (.pointer (some ⟨b2_0, 0, none⟩)) := (hs 2 rfl).trans h2
      replace h5 : R 5 = ul_u3 := (hs 5 rfl).trans h5
      replace h6 : R 6 = .int .i64 y7 := (hs 6 rfl).trans h6
      have h28 : R 28 = .bool x15 := hF' 9 _ _ rfl rfl rfl
      replace f_v1 := f_v1.fr hw
      replace hO := hO.fr hw
      replace hA := hA.fr hw.size
      replace hF := hF.trans hw
      clear hs hF' hw
      refine seqR_nil ?_
      refine HT.cond x15 h28 (fun c17 => ?_) (fun c17 => ?_)
      · have hr := cnd_t c17 hr
        obtain ⟨e18, hr⟩ := ck_some hr
        obtain ⟨e19, hr⟩ := ck_some hr
        refine HT.textR [ob (.pointer (some ⟨b2_0, 0, none⟩)) (.box w0.heap.size 49 E_impl_SetIndex p0), ob ul_u3 (.vec w0.heap.size 3 (eInt .i64) y8)] (⟨_, true, [], none, true, fun A => .raw ul_u3⟩ :: ⟨_, true, [], none, true, fun A => .raw (.pointer (some ⟨b2_0, 2, none⟩))⟩ :: ⟨_, true, [], none, true, fun A => .rep (eSl E_impl_IndexedSet) A p0.2.2⟩ :: ⟨_, true, [], none, true, fun A => .raw (.int .i64 y7)⟩ :: ⟨_, true, [], none, true, fun A => .qtr E_impl_IndexedSet A (gtD p0.2.2 y7)⟩ :: ⟨_, true, [], none, true, fun A => .qtr (eInt .i64) A ((gtD p0.2.2 y7).1)⟩ :: ⟨_, true, [], none, true, fun A => .raw (.int .i64 ((gtD p0.2.2 y7).1))⟩ :: ⟨_, true, [], none, true, fun A => .rep (eSl (eInt .i64)) A ([(gtD p0.2.2 y7).1] : List Int)⟩ :: ⟨_, true, [1], some (.vec w0.heap.size 3 (eInt .i64) (y8 ++ ([(gtD p0.2.2 y7).1] : List Int))), true, fun A => .any⟩ :: ⟨_, true, [10], some (.vec w0.heap.size 3 (eInt .i64) (y8 ++ ([(gtD p0.2.2 y7).1] : List Int))), true, fun A => .any⟩ :: []) (by kernel_rfl) (by kernel_rfl) (Wf.mk' (by kernel_rfl) (UAll.cons ust_raw (UAll.cons ust_raw (UAll.cons ust_rep (UAll.cons ust_raw (UAll.cons ust_qtr (UAll.cons ust_qtr (UAll.cons ust_raw (UAll.cons ust_rep (UAll.cons ust_any (UAll.cons ust_any (UAll.nil))))))))))) (by kernel_rfl) (by kernel_rfl)) hO hA ?_ ?_
        · exact
            OblsR.cons (OblR.plain rfl rfl rfl rfl fun A' R' w' ho hd => by have a0 : R' 5 = ul_u3 := (ho.old 5 rfl).trans h5; exact of_move a0) <|
            OblsR.cons (OblR.plain rfl rfl rfl rfl fun A' R' w' ho hd => by have a0 : R' 2 = (.pointer (some ⟨b2_0, 0, none⟩)) := (ho.old 2 rfl).trans h2; exact of_fieldAddr_raw a0 ff_49_2 Try.sizeOf47 (by decide) rfl) <|
            OblsR.cons (OblR.plain rfl rfl rfl rfl fun A' R' w' ho hd => by have a0 : R' 30 = (.pointer (some ⟨b2_0, 2, none⟩)) := hd 0 _ _ _ rfl rfl rfl rfl rfl; exact (of_load_box (ho.rd 0 _ rfl rfl) a0 fl_impl_SetIndex_2 rfl Try.isAgg47 Try.sizeOf47)) <|
            OblsR.cons (OblR.plain rfl rfl rfl rfl fun A' R' w' ho hd => by have a0 : R' 6 = .int .i64 y7 := (ho.old 6 rfl).trans h6; exact of_move a0) <|
            OblsR.cons (OblR.plain rfl rfl rfl rfl fun A' R' w' ho hd => by have a0 : Rep (eSl E_impl_IndexedSet) A' w' (R' 31) p0.2.2 := hd 0 _ _ _ rfl rfl rfl rfl rfl; have a1 : R' 32 = .int .i64 y7 := hd 1 _ _ _ rfl rfl rfl rfl rfl; exact of_indexAddr a0 a1 Try.underlying47 Try.sizeOf91 e18) <|
            OblsR.cons (OblR.plain rfl rfl rfl rfl fun A' R' w' ho hd => by have a0 : QRep E_impl_IndexedSet A' w' (R' 33) (gtD p0.2.2 y7) := hd 0 _ _ _ rfl rfl rfl rfl rfl; exact of_fieldAddr_q a0 ff_91_0 Try.sizeOf3 (by decide) fl_impl_IndexedSet_0 rfl) <|
            OblsR.cons (OblR.plain rfl rfl rfl rfl fun A' R' w' ho hd => by have a0 : QRep (eInt .i64) A' w' (R' 34) ((gtD p0.2.2 y7).1) := hd 0 _ _ _ rfl rfl rfl rfl rfl; exact OpF.int (of_load a0.ptr Try.isAgg3 Try.sizeOf3)) <|
            OblsR.cons (OblR.plain rfl rfl rfl rfl fun A' R' w' ho hd => by have a0 : R' 35 = .int .i64 ((gtD p0.2.2 y7).1) := hd 0 _ _ _ rfl rfl rfl rfl rfl; exact of_build [_] (E := eInt .i64) ⟨(rep_int.eq a0), trivial⟩ Try.underlying61 Try.sizeOf3 Try.zeroValue3 rfl rfl rfl ho.av) <|
            OblsR.cons (OblR.took 1 _ _ rfl rfl rfl rfl rfl fun A' R' w' ho hd u hok hav hin hop hds => by have a0 : R' 29 = ul_u3 := hd 0 _ _ _ rfl rfl rfl rfl rfl; have a1 : Rep (eSl (eInt .i64)) A' w' (R' 36) ([(gtD p0.2.2 y7).1] : List Int) := hd 1 _ _ _ rfl rfl rfl rfl rfl; exact took_append (a0.trans (hin _ rfl).symm) hok hav (Nat.le_trans hF.size ho.ch.size) a1 Try.underlying61 el_3 e19) <|
            OblsR.cons (OblR.took 10 _ _ rfl rfl rfl rfl rfl fun A' R' w' ho hd u hok hav hin hop hds => by exact took_assign (hop _ _ rfl rfl rfl rfl).symm hok hav) <|
            OblsR.nil
        intro done ρ σ A R w hdn hI
        replace h1 : R 1 = v1 := (hI.reg rfl).trans h1
        replace h2 : R 2 = (.pointer (some ⟨b2_0, 0, none⟩)) := (hI.reg rfl).trans h2
        replace h6 : R 6 = .int .i64 y7 := (hI.reg rfl).trans h6
        have z20 := hI.inivR 0 rfl
        obtain ⟨u21, e_u21⟩ : ∃ u, ρ 11 = u := ⟨_, rfl⟩
        have h5 : R 5 = u21 := (hI.opvR hdn 11 9 rfl rfl rfl rfl rfl).symm.trans e_u21
        replace f_v1 := f_v1.stp hI.stp
        replace hAA := hI.low' hAA hA0 (hO.ge (⟨rfl, ⟨rfl, trivial⟩⟩))
        replace hF : Fr w0 w := hF.tr hI.ch (hO.ge (⟨rfl, ⟨rfl, trivial⟩⟩))
        replace hO : IniOK [ob (.pointer (some ⟨b2_0, 0, none⟩)) (.box w0.heap.size 49 E_impl_SetIndex p0), ob u21 (.vec w0.heap.size 3 (eInt .i64) (y8 ++ ([(gtD p0.2.2 y7).1] : List Int)))] A w := hI.left hdn [(0, ob (.pointer (some ⟨b2_0, 0, none⟩)) (.box w0.heap.size 49 E_impl_SetIndex p0)), (11, ob u21 (.vec w0.heap.size 3 (eInt .i64) (y8 ++ ([(gtD p0.2.2 y7).1] : List Int))))] ⟨rfl, rfl, z20, rfl, rfl, ⟨rfl, rfl, e_u21, rfl, rfl, trivial⟩⟩
        replace hA := hI.avok
        clear hI
        obtain ⟨e22, hr⟩ := ck_some hr
        refine HT.text (l := ⟨_, true, .raw (.int .i64 y7)⟩ :: ⟨_, true, .raw (.int .i64 (y7 + (1 : Int)))⟩ :: ⟨_, true, .raw (.int .i64 (y7 + (1 : Int)))⟩ :: []) (tl := []) (by kernel_rfl) (by kernel_rfl) (by kernel_rfl) ?_ ?_
        · exact
            Obls.cons (Obl.plain rfl rfl fun R' w' hw hs hd => by have a0 : R' 6 = .int .i64 y7 := (hs 6 rfl).trans h6; exact of_move a0) <|
            Obls.cons (Obl.plain rfl rfl fun R' w' hw hs hd => by have a0 : R' 17 = .int .i64 y7 := hd 0 _ _ _ rfl rfl rfl rfl rfl; exact of_add a0 rfl e22) <|
            Obls.cons (Obl.plain rfl rfl fun R' w' hw hs hd => by have a0 : R' 18 = .int .i64 (y7 + (1 : Int)) := hd 0 _ _ _ rfl rfl rfl rfl rfl; exact of_assign a0) <|
            Obls.nil
        intro R w hw hs hF'
        replace h1 : R 1 = v1 := (hs 1 rfl).trans h1
        replace h2 : R 2 = (.pointer (some ⟨b2_0, 0, none⟩)) := (hs 2 rfl).trans h2
        replace h5 : R 5 = u21 := (hs 5 rfl).trans h5
        have h6 : R 6 = .int .i64 (y7 + (1 : Int)) := hF' 2 _ _ rfl rfl rfl
        replace f_v1 := f_v1.fr hw
        replace hO := hO.fr hw
        replace hA := hA.fr hw.size
        replace hF := hF.trans hw
        clear hs hF' hw
        refine seqR_nil ?_
        exact Exists.intro k (And.intro (Nat.lt_succ_self k) ⟨_, _, _, u21, hr, hA, hF, hAA, hO, h1, h2, h5, h6, f_v1⟩)
      · have hr := cnd_f c17 hr
        refine HT.skip ?_
        obtain ⟨e23, hr⟩ := ck_some hr
        refine HT.text (l := ⟨_, true, .raw (.int .i64 y7)⟩ :: ⟨_, true, .raw (.int .i64 (y7 + (1 : Int)))⟩ :: ⟨_, true, .raw (.int .i64 (y7 + (1 : Int)))⟩ :: []) (tl := []) (by kernel_rfl) (by kernel_rfl) (by kernel_rfl) ?_ ?_
        · exact
            Obls.cons (Obl.plain rfl rfl fun R' w' hw hs hd => by have a0 : R' 6 = .int .i64 y7 := (hs 6 rfl).trans h6; exact of_move a0) <|
            Obls.cons (Obl.plain rfl rfl fun R' w' hw hs hd => by have a0 : R' 17 = .int .i64 y7 := hd 0 _ _ _ rfl rfl rfl rfl rfl; exact of_add a0 rfl e23) <|
            Obls.cons (Obl.plain rfl rfl fun R' w' hw hs hd => by have a0 : R' 18 = .int .i64 (y7 + (1 : Int)) := hd 0 _ _ _ rfl rfl rfl rfl rfl; exact of_assign a0) <|
            Obls.nil
        intro R w hw hs hF'
        replace h1 : R 1 = v1 := (hs 1 rfl).trans h1
        replace h2 : R 2 = (.pointer (some ⟨b2_0, 0, none⟩)) := (hs 2 rfl).trans h2
        replace h5 : R 5 = ul_u3 := (hs 5 rfl).trans h5
        have h6 : R 6 = .int .i64 (y7 + (1 : Int)) := hF' 2 _ _ rfl rfl rfl
        replace f_v1 := f_v1.fr hw
        replace hO := hO.fr hw
        replace hA := hA.fr hw.size
        replace hF := hF.trans hw
        clear hs hF' hw
        refine seqR_nil ?_
        exact Exists.intro k (And.intro (Nat.lt_succ_self k) ⟨_, _, _, ul_u3, hr, hA, hF, hAA, hO, h1, h2, h5, h6, f_v1⟩)
    · have hr := cnd_f c13 hr
      refine HT.exit ?_
      obtain rfl := Option.some.inj hr
      replace hO : IniOK [ob ul_u3 (.vec w0.heap.size 3 (eInt .i64) y8)] A w := hO.sub [(1, ob ul_u3 (.vec w0.heap.size 3 (eInt .i64) y8))] ⟨rfl, rfl, trivial⟩
      exact Exists.intro _ ⟨_, ul_u3, rfl, hA, hF, hAA, hO, h5⟩
  rintro R w ⟨A, s6, uo_u3, es, hA, hF, hAA, hO, h5⟩
  obtain rfl := es.symm
  refine HT.seq ?_
  refine HT.text (l := ⟨_, true, .raw uo_u3⟩ :: ⟨_, true, .raw uo_u3⟩ :: []) (tl := []) (by kernel_rfl) (by kernel_rfl) (by kernel_rfl) ?_ ?_
  · exact
      Obls.cons (Obl.plain rfl rfl fun R' w' hw hs hd => by have a0 : R' 5 = uo_u3 := (hs 5 rfl).trans h5; exact of_move a0) <|
      Obls.cons (Obl.plain rfl rfl fun R' w' hw hs hd => by have a0 : R' 38 = uo_u3 := hd 0 _ _ _ rfl rfl rfl rfl rfl; exact of_assign a0) <|
      Obls.nil
  intro R w hw hs hF'
  have h4 : R 4 = uo_u3 := hF' 1 _ _ rfl rfl rfl
  replace hO := hO.fr hw
  replace hA := hA.fr hw.size
  replace hF := hF.trans hw
  clear hs hF' hw
  refine seqR_nil ?_
  refine HT.ret ?_
  obtain rfl := Option.some.inj hr
  exact ⟨.inr rfl, [R 4], ⟨rfl, trivial⟩, (own_post (hO.ok 0 _ rfl) hAA h4), hF⟩
theorem M_spec_SearchSets_okR {fu : Nat} {A0 : Av} {p0 : T_impl_SetIndex} {p1 : List (List UInt8)} {r : List Int} (hr : M_spec_SearchSets fu p0 p1 = some r) {w : World} {v0 : Value} {v1 : Value} (hA : AvOK A0 w) (h0 : Rep E_impl_SetIndex A0 w v0 p0) (h1 : Rep (eSl eStr) A0 w v1 p1) :
    Calls Try.prog 46 #[v0, v1] w fun e w' => ∃ v, e = .returned v ∧ (Rep (eSl (eInt .i64)) A0 w' v r ∧ Fr w w') := by
  refine Calls.mono (M_spec_SearchSets_ok hr hA h0 h1) ?_
  rintro e w' ⟨v, he, hv, hf⟩
  exact ⟨v, he, vec_rep hv (fun b o h => .inl h) hA, hf⟩
def M_impl_IsTokenTable_L0 (fu : Nat) (p0 : List T_impl_TokenCount) : Nat → Int → Option (Ex Bool Unit)
  | 0, _ => none
  | k + 1, y4 =>
    bif (decide (y4 < (p0.length : Int))) then (
      ck (inR y4 p0.length) <|
      ck (!((true && ((decide (((gtD p0 y4).2) < (1 : Int))) == false)) && ((decide ((0 : Int) < y4)) == true)) || i64B (y4 - (1 : Int))) <|
      ck (!((true && ((decide (((gtD p0 y4).2) < (1 : Int))) == false)) && ((decide ((0 : Int) < y4)) == true)) || inR (y4 - (1 : Int)) p0.length) <|
      bd ((decide ((0 : Int) < y4)) && (!(bLt ((gtD p0 (y4 - (1 : Int))).1) ((gtD p0 y4).1)))) fun x11 =>
      bd ((decide (((gtD p0 y4).2) < (1 : Int))) || x11) fun x13 =>
      bif x13 then (
        some (Ex.ret false)
      ) else (
        ck (i64B (y4 + (1 : Int))) <|
        M_impl_IsTokenTable_L0 fu p0 k (y4 + (1 : Int))
      )
    ) else (
      some (Ex.go ())
    )
def M_impl_IsTokenTable (fu : Nat) (p0 : List T_impl_TokenCount) : Option Bool :=
  cl true (M_impl_IsTokenTable_L0 fu p0 fu (0 : Int)) fun rl1 =>
  exM rl1 (fun r => some r) fun s3 =>
  some true
set_option maxRecDepth 100000 in
set_option maxHeartbeats 4000000 in
theorem M_impl_IsTokenTable_ok {fu : Nat} {A0 : Av} {p0 : List T_impl_TokenCount} {r : Bool} (hr : M_impl_IsTokenTable fu p0 = some r) {w : World} {v0 : Value} (hA : AvOK A0 w) (h0 : Rep (eSl E_impl_TokenCount) A0 w v0 p0) :
    Calls Try.prog 82 #[v0] w fun e w' => ∃ v, e = .returned v ∧ (v = .bool r ∧ Fr w w') := by
  unfold M_impl_IsTokenTable at hr
  obtain ⟨w0, hw0⟩ : ∃ w0, w0 = w := ⟨_, rfl⟩
  have hF : Fr w0 w := hw0 ▸ Fr.refl _
  have hA0 : ∀ b o, A0 b o → b < w0.heap.size := fun b o h => hw0 ▸ hA b o h
  have hA00 : AvOK A0 w0 := hA0
  rw [show Fr w = Fr w0 from hw0 ▸ rfl]
  clear hw0
  obtain ⟨A, hAe⟩ : ∃ A, A = A0 := ⟨_, rfl⟩
  have hAA : ∀ b o, A0 b o → A b o := fun b o h => hAe ▸ h
  replace hA : AvOK A w := hAe ▸ hA
  have hO : IniOK [] A w := IniOK.nil
  refine calls_of_HT2 [.tmp 2] Try.func82 Try.ntmps82 (by decide) rfl rfl (Nat.le_of_ble_eq_true rfl) ?_
  intro R hR
  have f_v0 : Rep (eSl E_impl_TokenCount) A w v0 p0 := hAe ▸ h0
  replace h0 : R 0 = v0 := hR 0 _ rfl
  clear hR hAe
  refine HT.seq ?_
  refine HT.text (l := ⟨_, true, .raw (.bool false)⟩ :: []) (tl := []) (by kernel_rfl) (by kernel_rfl) (by kernel_rfl) ?_ ?_
  · exact
      Obls.cons (Obl.plain rfl rfl fun R' w' hw hs hd => by exact of_assign rfl) <|
      Obls.nil
  intro R w hw hs hF'
  replace h0 : R 0 = v0 := (hs 0 rfl).trans h0
  replace f_v0 := f_v0.fr hw
  replace hO := hO.fr hw
  replace hA := hA.fr hw.size
  replace hF := hF.trans hw
  clear hs hF' hw
  refine seqR_nil ?_
  refine HT.seq ?_
  refine HT.seq ?_
  refine HT.text (l := ⟨_, true, .raw v0⟩ :: ⟨_, true, .raw (.int .i64 (p0.length : Int))⟩ :: ⟨_, true, .raw (.int .i64 (0 : Int))⟩ :: []) (tl := []) (by kernel_rfl) (by kernel_rfl) (by kernel_rfl) ?_ ?_
  · exact
      Obls.cons (Obl.plain rfl rfl fun R' w' hw hs hd => by have a0 : R' 0 = v0 := (hs 0 rfl).trans h0; exact of_move a0) <|
      Obls.cons (Obl.plain rfl rfl fun R' w' hw hs hd => by have a0 : R' 5 = v0 := hd 0 _ _ _ rfl rfl rfl rfl rfl; have ra0 := (f_v0.fr hw).eq a0; exact of_len_sl (aT := #[]) ra0 Try.underlying27) <|
      Obls.cons (Obl.plain rfl rfl fun R' w' hw hs hd => by exact of_move rfl) <|
      Obls.nil
  intro R w hw hs hF'
  replace h0 : R 0 = v0 := (hs 0 rfl).trans h0
  have h5 : R 5 = v0 := hF' 0 _ _ rfl rfl rfl
  have h6 : R 6 = .int .i64 (p0.length : Int) := hF' 1 _ _ rfl rfl rfl
  have h7 : R 7 = .int .i64 (0 : Int) := hF' 2 _ _ rfl rfl rfl
  replace f_v0 := f_v0.fr hw
  replace hO := hO.fr hw
  replace hA := hA.fr hw.size
  replace hF := hF.trans hw
  clear hs hF' hw
  refine seqR_nil ?_
  obtain ⟨rl1, q2, hr⟩ := cl_some hr
  replace q2 := q2 rfl
  refine HT.cut0 (fun R w => ∃ A : Av, ∃ (s3 : Unit), rl1 = Ex.go s3 ∧ AvOK A w ∧ Fr w0 w ∧ (∀ b o, A0 b o → A b o) ∧ IniOK [] A w) ?_ ?_
  · refine HT.block ?_
    refine HT.loop (fun k R w => ∃ A : Av, ∃ (y4 : Int), M_impl_IsTokenTable_L0 fu p0 k y4 = some rl1 ∧ AvOK A w ∧ Fr w0 w ∧ (∀ b o, A0 b o → A b o) ∧ IniOK [] A w ∧ R 0 = v0 ∧ R 5 = v0 ∧ R 6 = .int .i64 (p0.length : Int) ∧ R 7 = .int .i64 y4 ∧ Rep (eSl E_impl_TokenCount) A w v0 p0) fu ⟨_, _, q2, hA, hF, hAA, hO, h0, h5, h6, h7, f_v0⟩ ?_
    have hr0 := hr; clear hr q2
    rintro k R w ⟨A, y4, hr, hA, hF, hAA, hO, h0, h5, h6, h7, f_v0⟩
    rcases k with _ | k
    · cases (show none = some _ from hr)
    rw [M_impl_IsTokenTable_L0] at hr
    refine HT.seq ?_
    refine HT.text (l := ⟨_, true, .raw (.bool (decide (y4 < (p0.length : Int))))⟩ :: []) (tl := []) (by kernel_rfl) (by kernel_rfl) (by kernel_rfl) ?_ ?_
    · exact
        Obls.cons (Obl.plain rfl rfl fun R' w' hw hs hd => by have a0 : R' 7 = .int .i64 y4 := (hs 7 rfl).trans h7; have a1 : R' 6 = .int .i64 (p0.length : Int) := (hs 6 rfl).trans h6; exact of_lss a0 a1) <|
        Obls.nil
    intro R w hw hs hF'
    replace h0 : R 0 = v0 := (hs 0 rfl).trans h0
    replace h5 : R 5 = v0 := (hs 5 rfl).trans h5
    replace h6 : R 6 = .int .i64 (p0.length : Int) := (hs 6 rfl).trans h6
    replace h7 : R 7 = .int .i64 y4 := (hs 7 rfl).trans h7
    have h8 : R 8 = .bool (decide (y4 < (p0.length : Int))) := hF' 0 _ _ rfl rfl rfl
    replace f_v0 := f_v0.fr hw
    replace hO := hO.fr hw
    replace hA := hA.fr hw.size
    replace hF := hF.trans hw
    clear hs hF' hw
    refine seqR_nil ?_
    refine HT.seq ?_
    refine HT.cond (decide (y4 < (p0.length : Int))) h8 (fun c5 => ?_) (fun c5 => ?_)
    · have hr := cnd_t c5 hr
      refine HT.skip ?_
      refine HT.seq ?_
      refine HT.block ?_
      refine HT.seq ?_
      obtain ⟨e6, hr⟩ := ck_some hr
      refine HT.textR [] (⟨_, true, [], none, true, fun A => .raw (.int .i64 y4)⟩ :: ⟨_, true, [], none, true, fun A => .qtr E_impl_TokenCount A (gtD p0 y4)⟩ :: ⟨_, true, [], none, true, fun A => .rep E_impl_TokenCount A (gtD p0 y4)⟩ :: ⟨_, true, [], some (.box w0.heap.size 76 E_impl_TokenCount (([] : List UInt8), (0 : Int))), true, fun A => .any⟩ :: ⟨_, true, [], none, true, fun A => .raw (.int .i64 y4)⟩ :: ⟨_, true, [3], some (.box w0.heap.size 76 E_impl_TokenCount (gtD p0 y4)), false, fun A => .any⟩ :: []) (by kernel_rfl) (by kernel_rfl) (Wf.mk' (by kernel_rfl) (UAll.cons ust_raw (UAll.cons ust_qtr (UAll.cons ust_rep (UAll.cons ust_any (UAll.cons ust_raw (UAll.cons ust_any (UAll.nil))))))) (by kernel_rfl) (by kernel_rfl)) hO hA ?_ ?_
      · exact
          OblsR.cons (OblR.plain rfl rfl rfl rfl fun A' R' w' ho hd => by have a0 : R' 7 = .int .i64 y4 := (ho.old 7 rfl).trans h7; exact of_move a0) <|
          OblsR.cons (OblR.plain rfl rfl rfl rfl fun A' R' w' ho hd => by have a0 : R' 5 = v0 := (ho.old 5 rfl).trans h5; have a1 : R' 7 = .int .i64 y4 := (ho.old 7 rfl).trans h7; have ra0 := (f_v0.stp ho.stp).eq a0; exact of_indexAddr ra0 a1 Try.underlying27 Try.sizeOf76 e6) <|
          OblsR.cons (OblR.plain rfl rfl rfl rfl fun A' R' w' ho hd => by have a0 : QRep E_impl_TokenCount A' w' (R' 10) (gtD p0 y4) := hd 0 _ _ _ rfl rfl rfl rfl rfl; exact (of_load a0.ptr Try.isAgg76 Try.sizeOf76)) <|
          OblsR.cons (OblR.made _ rfl rfl rfl rfl fun A' R' w' ho hd => by exact made_alloc Try.zeroValue76 (fun A w => rep_pr (rep1_str rfl (by decide)) rep1_int) (Nat.le_trans hF.size ho.ch.size)) <|
          OblsR.cons (OblR.plain rfl rfl rfl rfl fun A' R' w' ho hd => by have a0 : R' 9 = .int .i64 y4 := hd 0 _ _ _ rfl rfl rfl rfl rfl; exact of_assign a0) <|
          OblsR.cons (OblR.took 3 _ _ rfl rfl rfl rfl rfl fun A' R' w' ho hd u hok hav hin hop hds => by have a1 : Rep E_impl_TokenCount A' w' (R' 11) (gtD p0 y4) := hd 1 _ _ _ rfl rfl rfl rfl rfl; obtain ⟨b, hb, hB', hbx⟩ := hok; have hop' := hop _ _ rfl rfl rfl rfl; exact took_store a1 (hop'.symm.trans hb) hb ⟨b, hb, hB', hbx⟩ hav (FldS.id _) Try.sizeOf76 rfl) <|
          OblsR.nil
      intro done ρ σ A R w hdn hI
      replace h0 : R 0 = v0 := (hI.reg rfl).trans h0
      replace h5 : R 5 = v0 := (hI.reg rfl).trans h5
      replace h6 : R 6 = .int .i64 (p0.length : Int) := (hI.reg rfl).trans h6
      replace h7 : R 7 = .int .i64 y4 := (hI.reg rfl).trans h7
      obtain ⟨b4_6, e_b4_6⟩ := hI.boxv hdn 5 rfl rfl
      have z8 := (hI.opnR hdn 5 5 rfl rfl rfl rfl rfl).symm.trans e_b4_6
      have h4 : R 4 = (.pointer (some ⟨b4_6, 0, none⟩)) := (hI.opvR hdn 3 3 rfl rfl rfl rfl rfl).symm.trans z8
      have h3 : R 3 = .int .i64 y4 := hI.fact hdn (i := 4) rfl rfl rfl
      replace f_v0 := f_v0.stp hI.stp
      replace hAA := hI.low' hAA hA0 (hO.ge (trivial))
      replace hF : Fr w0 w := hF.tr hI.ch (hO.ge (trivial))
      replace hO : IniOK [ob (.pointer (some ⟨b4_6, 0, none⟩)) (.box w0.heap.size 76 E_impl_TokenCount (gtD p0 y4))] A w := hI.left hdn [(5, ob (.pointer (some ⟨b4_6, 0, none⟩)) (.box w0.heap.size 76 E_impl_TokenCount (gtD p0 y4)))] ⟨rfl, rfl, e_b4_6, rfl, rfl, trivial⟩
      replace hA := hI.avok
      clear hI
      refine HT.seq ?_
      obtain ⟨e9, hr⟩ := ck_some hr
      obtain ⟨e10, hr⟩ := ck_some hr
      obtain ⟨x11, q12, hr⟩ := bd_some hr
      obtain ⟨x13, q14, hr⟩ := bd_some hr
      refine HT.draw (by kernel_rfl) (l := ⟨_, true, .raw (.pointer (some ⟨b4_6, 1, none⟩))⟩ :: ⟨_, true, .raw (.int .i64 ((gtD p0 y4).2))⟩ :: ⟨_, true, .raw (.bool (decide (((gtD p0 y4).2) < (1 : Int))))⟩ :: ⟨_, true, .raw (.bool (decide (((gtD p0 y4).2) < (1 : Int))))⟩ :: ⟨_, (true && ((decide (((gtD p0 y4).2) < (1 : Int))) == false)), .raw (.int .i64 y4)⟩ :: ⟨_, (true && ((decide (((gtD p0 y4).2) < (1 : Int))) == false)), .raw (.bool (decide ((0 : Int) < y4)))⟩ :: ⟨_, (true && ((decide (((gtD p0 y4).2) < (1 : Int))) == false)), .raw (.bool (decide ((0 : Int) < y4)))⟩ :: ⟨_, ((true && ((decide (((gtD p0 y4).2) < (1 : Int))) == false)) && ((decide ((0 : Int) < y4)) == true)), .raw v0⟩ :: ⟨_, ((true && ((decide (((gtD p0 y4).2) < (1 : Int))) == false)) && ((decide ((0 : Int) < y4)) == true)), .raw (.int .i64 y4)⟩ :: ⟨_, ((true && ((decide (((gtD p0 y4).2) < (1 : Int))) == false)) && ((decide ((0 : Int) < y4)) == true)), .raw (.int .i64 (y4 - (1 : Int)))⟩ :: ⟨_, ((true && ((decide (((gtD p0 y4).2) < (1 : Int))) == false)) && ((decide ((0 : Int) < y4)) == true)), .qtr E_impl_TokenCount A (gtD p0 (y4 - (1 : Int)))⟩ :: ⟨_, ((true && ((decide (((gtD p0 y4).2) < (1 : Int))) == false)) && ((decide ((0 : Int) < y4)) == true)), .qtr eStr A ((gtD p0 (y4 - (1 : Int))).1)⟩ :: ⟨_, ((true && ((decide (((gtD p0 y4).2) < (1 : Int))) == false)) && ((decide ((0 : Int) < y4)) == true)), .rep eStr A ((gtD p0 (y4 - (1 : Int))).1)⟩ :: ⟨_, ((true && ((decide (((gtD p0 y4).2) < (1 : Int))) == false)) && ((decide ((0 : Int) < y4)) == true)), .raw (.pointer (some ⟨b4_6, 0, none⟩))⟩ :: ⟨_, ((true && ((decide (((gtD p0 y4).2) < (1 : Int))) == false)) && ((decide ((0 : Int) < y4)) == true)), .rep eStr A ((gtD p0 y4).1)⟩ :: ⟨_, ((true && ((decide (((gtD p0 y4).2) < (1 : Int))) == false)) && ((decide ((0 : Int) < y4)) == true)), .raw (.bool (!(bLt ((gtD p0 (y4 - (1 : Int))).1) ((gtD p0 y4).1))))⟩ :: ⟨_, (true && ((decide (((gtD p0 y4).2) < (1 : Int))) == false)), .raw (.bool x11)⟩ :: ⟨_, true, .raw (.bool x13)⟩ :: []) (tl := []) (by kernel_rfl) (by kernel_rfl) (by kernel_rfl) (by kernel_rfl) ?_ ?_
      · exact
          Obls.cons (Obl.plain rfl rfl fun R' w' hw hs hd => by have a0 : R' 4 = (.pointer (some ⟨b4_6, 0, none⟩)) := (hs 4 rfl).trans h4; exact of_fieldAddr_raw a0 ff_76_1 Try.sizeOf3 (by decide) rfl) <|
          Obls.cons (Obl.plain rfl rfl fun R' w' hw hs hd => by have a0 : R' 12 = (.pointer (some ⟨b4_6, 1, none⟩)) := hd 0 _ _ _ rfl rfl rfl rfl rfl; exact OpF.int (of_load_box ((hO.fr hw).ok 0 _ rfl).1 a0 fl_impl_TokenCount_1 rfl Try.isAgg3 Try.sizeOf3)) <|
          Obls.cons (Obl.plain rfl rfl fun R' w' hw hs hd => by have a0 : R' 13 = .int .i64 ((gtD p0 y4).2) := hd 0 _ _ _ rfl rfl rfl rfl rfl; exact of_lss a0 rfl) <|
          Obls.cons (Obl.plain rfl rfl fun R' w' hw hs hd => by have a0 : R' 14 = .bool (decide (((gtD p0 y4).2) < (1 : Int))) := hd 0 _ _ _ rfl rfl rfl rfl rfl; exact of_move a0) <|
          Obls.cons (Obl.grd 3 false _ _ _ rfl rfl rfl rfl rfl (by kernel_rfl) fun hg R' w' hw hs hd => by have a0 : R' 3 = .int .i64 y4 := (hs 3 rfl).trans h3; exact of_move a0) <|
          Obls.cons (Obl.grd 3 false _ _ _ rfl rfl rfl rfl rfl (by kernel_rfl) fun hg R' w' hw hs hd => by have a0 : R' 16 = .int .i64 y4 := hd 0 _ _ _ rfl rfl rfl rfl hg; exact of_gtr a0 rfl) <|
          Obls.cons (Obl.grd 3 false _ _ _ rfl rfl rfl rfl rfl (by kernel_rfl) fun hg R' w' hw hs hd => by have a0 : R' 17 = .bool (decide ((0 : Int) < y4)) := hd 0 _ _ _ rfl rfl rfl rfl hg; exact of_move a0) <|
          Obls.cons (Obl.grd 6 true _ _ _ rfl rfl rfl rfl rfl (by kernel_rfl) fun hg R' w' hw hs hd => by have a0 : R' 0 = v0 := (hs 0 rfl).trans h0; exact of_move a0) <|
          Obls.cons (Obl.grd 6 true _ _ _ rfl rfl rfl rfl rfl (by kernel_rfl) fun hg R' w' hw hs hd => by have a0 : R' 3 = .int .i64 y4 := (hs 3 rfl).trans h3; exact of_move a0) <|
          Obls.cons (Obl.grd 6 true _ _ _ rfl rfl rfl rfl rfl (by kernel_rfl) fun hg R' w' hw hs hd => by have a0 : R' 20 = .int .i64 y4 := hd 0 _ _ _ rfl rfl rfl rfl hg; exact of_sub a0 rfl (gd e9 hg)) <|
          Obls.cons (Obl.grd 6 true _ _ _ rfl rfl rfl rfl rfl (by kernel_rfl) fun hg R' w' hw hs hd => by have a0 : R' 19 = v0 := hd 0 _ _ _ rfl rfl rfl rfl hg; have a1 : R' 21 = .int .i64 (y4 - (1 : Int)) := hd 1 _ _ _ rfl rfl rfl rfl hg; have ra0 := (f_v0.fr hw).eq a0; exact of_indexAddr ra0 a1 Try.underlying27 Try.sizeOf76 (gd e10 hg)) <|
          Obls.cons (Obl.grd 6 true _ _ _ rfl rfl rfl rfl rfl (by kernel_rfl) fun hg R' w' hw hs hd => by have a0 : QRep E_impl_TokenCount A w' (R' 22) (gtD p0 (y4 - (1 : Int))) := hd 0 _ _ _ rfl rfl rfl rfl hg; exact of_fieldAddr_q a0 ff_76_0 Try.sizeOf9 (by decide) fl_impl_TokenCount_0 rfl) <|
          Obls.cons (Obl.grd 6 true _ _ _ rfl rfl rfl rfl rfl (by kernel_rfl) fun hg R' w' hw hs hd => by have a0 : QRep eStr A w' (R' 23) ((gtD p0 (y4 - (1 : Int))).1) := hd 0 _ _ _ rfl rfl rfl rfl hg; exact (of_load a0.ptr Try.isAgg9 Try.sizeOf9)) <|
          Obls.cons (Obl.grd 6 true _ _ _ rfl rfl rfl rfl rfl (by kernel_rfl) fun hg R' w' hw hs hd => by have a0 : R' 4 = (.pointer (some ⟨b4_6, 0, none⟩)) := (hs 4 rfl).trans h4; exact of_fieldAddr_raw a0 ff_76_0 Try.sizeOf9 (by decide) rfl) <|
          Obls.cons (Obl.grd 6 true _ _ _ rfl rfl rfl rfl rfl (by kernel_rfl) fun hg R' w' hw hs hd => by have a0 : R' 25 = (.pointer (some ⟨b4_6, 0, none⟩)) := hd 0 _ _ _ rfl rfl rfl rfl hg; exact (of_load_box ((hO.fr hw).ok 0 _ rfl).1 a0 fl_impl_TokenCount_0 rfl Try.isAgg9 Try.sizeOf9)) <|
          Obls.cons (Obl.grd 6 true _ _ _ rfl rfl rfl rfl rfl (by kernel_rfl) fun hg R' w' hw hs hd => by have a0 : Rep eStr A w' (R' 24) ((gtD p0 (y4 - (1 : Int))).1) := hd 0 _ _ _ rfl rfl rfl rfl hg; have a1 : Rep eStr A w' (R' 26) ((gtD p0 y4).1) := hd 1 _ _ _ rfl rfl rfl rfl hg; exact of_sgeq a0 a1) <|
          Obls.cons (Obl.grd 3 false _ _ _ rfl rfl rfl rfl rfl (by kernel_rfl) fun hg R' w' hw hs hd => by have a0 : R' 18 = .bool (decide ((0 : Int) < y4)) := hd 0 _ _ _ rfl rfl rfl rfl hg; exact of_pick (decide ((0 : Int) < y4)) a0 (fun hc => by have a1 : R' 27 = .bool (!(bLt ((gtD p0 (y4 - (1 : Int))).1) ((gtD p0 y4).1))) := hd 1 _ _ _ rfl rfl rfl rfl (g_and hg (beq_of hc)); show _ = Value.bool x11; rw [q12, hc]; exact a1) (fun hc => by show _ = Value.bool x11; rw [q12, hc]; exact rfl)) <|
          Obls.cons (Obl.plain rfl rfl fun R' w' hw hs hd => by have a0 : R' 15 = .bool (decide (((gtD p0 y4).2) < (1 : Int))) := hd 0 _ _ _ rfl rfl rfl rfl rfl; exact of_pick (decide (((gtD p0 y4).2) < (1 : Int))) a0 (fun hc => by show _ = Value.bool x13; rw [q14, hc]; exact rfl) (fun hc => by have a2 : R' 28 = .bool x11 := hd 1 _ _ _ rfl rfl rfl rfl (g_and rfl (beq_of hc)); show _ = Value.bool x13; rw [q14, hc]; exact a2)) <|
          Obls.nil
      intro R w hw hs hF'
      replace h0 : R 0 = v0 := (hs 0 rfl).trans h0
      replace h5 : R 5 = v0 := (hs 5 rfl).trans h5
      replace h6 : R 6 = .int .i64 (p0.length : Int) := (hs 6 rfl).trans h6
      replace h7 : R 7 = .int .i64 y4 := (hs 7 rfl).trans h7
      have h29 : R 29 = .bool x13 := hF' 17 _ _ rfl rfl rfl
      replace f_v0 := f_v0.fr hw
      replace hO := hO.fr hw
      replace hO : IniOK [] A w := hO.sub [] trivial
      replace hA := hA.fr hw.size
      replace hF := hF.trans hw
      clear hs hF' hw
      refine seqR_nil ?_
      refine HT.cond x13 h29 (fun c15 => ?_) (fun c15 => ?_)
      · have hr := cnd_t c15 hr
        refine HT.seq ?_
        refine HT.text (l := ⟨_, true, .raw (.bool false)⟩ :: []) (tl := []) (by kernel_rfl) (by kernel_rfl) (by kernel_rfl) ?_ ?_
        · exact
            Obls.cons (Obl.plain rfl rfl fun R' w' hw hs hd => by exact of_assign rfl) <|
            Obls.nil
        intro R w hw hs hF'
        have h2 : R 2 = .bool false := hF' 0 _ _ rfl rfl rfl
        replace hO := hO.fr hw
        replace hA := hA.fr hw.size
        replace hF := hF.trans hw
        clear hs hF' hw
        refine seqR_nil ?_
        refine HT.ret ?_
        obtain rfl := Option.some.inj hr
        have hr := hr0
        replace hr : some _ = some _ := hr
        obtain rfl := Option.some.inj hr
        exact ⟨.inr rfl, [R 2], ⟨rfl, trivial⟩, h2, hF⟩
      · have hr := cnd_f c15 hr
        refine HT.skip ?_
        obtain ⟨e16, hr⟩ := ck_some hr
        refine HT.text (l := ⟨_, true, .raw (.int .i64 (y4 + (1 : Int)))⟩ :: ⟨_, true, .raw (.int .i64 (y4 + (1 : Int)))⟩ :: []) (tl := []) (by kernel_rfl) (by kernel_rfl) (by kernel_rfl) ?_ ?_
        · exact
            Obls.cons (Obl.plain rfl rfl fun R' w' hw hs hd => by have a0 : R' 7 = .int .i64 y4 := (hs 7 rfl).trans h7; exact of_add a0 rfl e16) <|
            Obls.cons (Obl.plain rfl rfl fun R' w' hw hs hd => by have a0 : R' 30 = .int .i64 (y4 + (1 : Int)) := hd 0 _ _ _ rfl rfl rfl rfl rfl; exact of_move a0) <|
            Obls.nil
        intro R w hw hs hF'
        replace h0 : R 0 = v0 := (hs 0 rfl).trans h0
        replace h5 : R 5 = v0 := (hs 5 rfl).trans h5
        replace h6 : R 6 = .int .i64 (p0.length : Int) := (hs 6 rfl).trans h6
        have h7 : R 7 = .int .i64 (y4 + (1 : Int)) := hF' 1 _ _ rfl rfl rfl
        replace f_v0 := f_v0.fr hw
        replace hO := hO.fr hw
        replace hA := hA.fr hw.size
        replace hF := hF.trans hw
        clear hs hF' hw
        refine seqR_nil ?_
        exact Exists.intro k (And.intro (Nat.lt_succ_self k) ⟨_, _, hr, hA, hF, hAA, hO, h0, h5, h6, h7, f_v0⟩)
    · have hr := cnd_f c5 hr
      refine HT.exit ?_
      obtain rfl := Option.some.inj hr
      exact Exists.intro _ ⟨_, rfl, hA, hF, hAA, hO⟩
  rintro R w ⟨A, s3, rfl, hA, hF, hAA, hO⟩
  have hr := exM_go hr
  refine HT.seq ?_
  refine HT.text (l := ⟨_, true, .raw (.bool true)⟩ :: []) (tl := []) (by kernel_rfl) (by kernel_rfl) (by kernel_rfl) ?_ ?_
  · exact
      Obls.cons (Obl.plain rfl rfl fun R' w' hw hs hd => by exact of_assign rfl) <|
      Obls.nil
  intro R w hw hs hF'
  have h2 : R 2 = .bool true := hF' 0 _ _ rfl rfl rfl
  replace hO := hO.fr hw
  replace hA := hA.fr hw.size
  replace hF := hF.trans hw
  clear hs hF' hw
  refine seqR_nil ?_
  refine HT.ret ?_
  obtain rfl := Option.some.inj hr
  exact ⟨.inr rfl, [R 2], ⟨rfl, trivial⟩, h2, hF⟩
def M_impl_within (fu : Nat) (p0 : Int) (p1 : Int) (p2 : Int) : Option Bool :=
  bd ((decide (p1 ≤ p0)) && (decide (p0 ≤ p2))) fun x1 =>
  some x1
set_option maxRecDepth 100000 in
set_option maxHeartbeats 4000000 in
theorem M_impl_within_ok {fu : Nat} {A : Av} {p0 : Int} {p1 : Int} {p2 : Int} {r : Bool} (hr : M_impl_within fu p0 p1 p2 = some r) {w : World} {v0 : Value} {v1 : Value} {v2 : Value} (hA : AvOK A w) (h0 : v0 = .int .i64 p0) (h1 : v1 = .int .i64 p1) (h2 : v2 = .int .i64 p2) :
    Calls Try.prog 114 #[v0, v1, v2] w fun e w' => ∃ v, e = .returned v ∧ (v = .bool r ∧ Fr w w') := by
  unfold M_impl_within at hr
  obtain ⟨w0, hw0⟩ : ∃ w0, w0 = w := ⟨_, rfl⟩
  have hF : Fr w0 w := hw0 ▸ Fr.refl _
  rw [show Fr w = Fr w0 from hw0 ▸ rfl]
  clear hw0
  refine calls_of_HT2 [.tmp 6] Try.func114 Try.ntmps114 (by decide) rfl rfl (Nat.le_of_ble_eq_true rfl) ?_
  intro R hR
  replace h0 : R 0 = .int .i64 p0 := (hR 0 _ rfl).trans h0
  replace h1 : R 1 = .int .i64 p1 := (hR 1 _ rfl).trans h1
  replace h2 : R 2 = .int .i64 p2 := (hR 2 _ rfl).trans h2
  clear hR
  refine HT.seq ?_
  refine HT.text (l := ⟨_, true, .raw (.bool false)⟩ :: []) (tl := []) (by kernel_rfl) (by kernel_rfl) (by kernel_rfl) ?_ ?_
  · exact
      Obls.cons (Obl.plain rfl rfl fun R' w' hw hs hd => by exact of_assign rfl) <|
      Obls.nil
  intro R w hw hs hF'
  replace h0 : R 0 = .int .i64 p0 := (hs 0 rfl).trans h0
  replace h1 : R 1 = .int .i64 p1 := (hs 1 rfl).trans h1
  replace h2 : R 2 = .int .i64 p2 := (hs 2 rfl).trans h2
  replace hA := hA.fr hw.size
  replace hF := hF.trans hw
  clear hs hF' hw
  refine seqR_nil ?_
  refine HT.seq ?_
  obtain ⟨x1, q2, hr⟩ := bd_some hr
  refine HT.text (l := ⟨_, true, .raw (.int .i64 p0)⟩ :: ⟨_, true, .raw (.int .i64 p1)⟩ :: ⟨_, true, .raw (.bool (decide (p1 ≤ p0)))⟩ :: ⟨_, true, .raw (.bool (decide (p1 ≤ p0)))⟩ :: ⟨_, (true && ((decide (p1 ≤ p0)) == true)), .raw (.int .i64 p0)⟩ :: ⟨_, (true && ((decide (p1 ≤ p0)) == true)), .raw (.int .i64 p2)⟩ :: ⟨_, (true && ((decide (p1 ≤ p0)) == true)), .raw (.bool (decide (p0 ≤ p2)))⟩ :: ⟨_, true, .raw (.bool x1)⟩ :: ⟨_, true, .raw (.bool x1)⟩ :: []) (tl := []) (by kernel_rfl) (by kernel_rfl) (by kernel_rfl) ?_ ?_
  · exact
      Obls.cons (Obl.plain rfl rfl fun R' w' hw hs hd => by have a0 : R' 0 = .int .i64 p0 := (hs 0 rfl).trans h0; exact of_move a0) <|
      Obls.cons (Obl.plain rfl rfl fun R' w' hw hs hd => by have a0 : R' 1 = .int .i64 p1 := (hs 1 rfl).trans h1; exact of_move a0) <|
      Obls.cons (Obl.plain rfl rfl fun R' w' hw hs hd => by have a0 : R' 7 = .int .i64 p0 := hd 0 _ _ _ rfl rfl rfl rfl rfl; have a1 : R' 8 = .int .i64 p1 := hd 1 _ _ _ rfl rfl rfl rfl rfl; exact of_geq a0 a1) <|
      Obls.cons (Obl.plain rfl rfl fun R' w' hw hs hd => by have a0 : R' 9 = .bool (decide (p1 ≤ p0)) := hd 0 _ _ _ rfl rfl rfl rfl rfl; exact of_move a0) <|
      Obls.cons (Obl.grd 3 true _ _ _ rfl rfl rfl rfl rfl (by kernel_rfl) fun hg R' w' hw hs hd => by have a0 : R' 0 = .int .i64 p0 := (hs 0 rfl).trans h0; exact of_move a0) <|
      Obls.cons (Obl.grd 3 true _ _ _ rfl rfl rfl rfl rfl (by kernel_rfl) fun hg R' w' hw hs hd => by have a0 : R' 2 = .int .i64 p2 := (hs 2 rfl).trans h2; exact of_move a0) <|
      Obls.cons (Obl.grd 3 true _ _ _ rfl rfl rfl rfl rfl (by kernel_rfl) fun hg R' w' hw hs hd => by have a0 : R' 11 = .int .i64 p0 := hd 0 _ _ _ rfl rfl rfl rfl hg; have a1 : R' 12 = .int .i64 p2 := hd 1 _ _ _ rfl rfl rfl rfl hg; exact of_leq a0 a1) <|
      Obls.cons (Obl.plain rfl rfl fun R' w' hw hs hd => by have a0 : R' 10 = .bool (decide (p1 ≤ p0)) := hd 0 _ _ _ rfl rfl rfl rfl rfl; exact of_pick (decide (p1 ≤ p0)) a0 (fun hc => by have a1 : R' 13 = .bool (decide (p0 ≤ p2)) := hd 1 _ _ _ rfl rfl rfl rfl (g_and rfl (beq_of hc)); show _ = Value.bool x1; rw [q2, hc]; exact a1) (fun hc => by show _ = Value.bool x1; rw [q2, hc]; exact rfl)) <|
      Obls.cons (Obl.plain rfl rfl fun R' w' hw hs hd => by have a0 : R' 14 = .bool x1 := hd 0 _ _ _ rfl rfl rfl rfl rfl; exact of_assign a0) <|
      Obls.nil
  intro R w hw hs hF'
  have h6 : R 6 = .bool x1 := hF' 8 _ _ rfl rfl rfl
  replace hA := hA.fr hw.size
  replace hF := hF.trans hw
  clear hs hF' hw
  refine seqR_nil ?_
  refine HT.ret ?_
  obtain rfl := Option.some.inj hr
  exact ⟨.inr rfl, [R 6], ⟨rfl, trivial⟩, h6, hF⟩
def M_impl_isThreshold (fu : Nat) (p0 : Int) : Option Bool :=
  cl true (M_impl_within fu p0 (1 : Int) (1000 : Int)) fun x1 =>
  some x1
set_option maxRecDepth 100000 in
set_option maxHeartbeats 4000000 in
theorem M_impl_isThreshold_ok {fu : Nat} {A : Av} {p0 : Int} {r : Bool} (hr : M_impl_isThreshold fu p0 = some r) {w : World} {v0 : Value} (hA : AvOK A w) (h0 : v0 = .int .i64 p0) :
    Calls Try.prog 83 #[v0] w fun e w' => ∃ v, e = .returned v ∧ (v = .bool r ∧ Fr w w') := by
  unfold M_impl_isThreshold at hr
  obtain ⟨w0, hw0⟩ : ∃ w0, w0 = w := ⟨_, rfl⟩
  have hF : Fr w0 w := hw0 ▸ Fr.refl _
  rw [show Fr w = Fr w0 from hw0 ▸ rfl]
  clear hw0
  refine calls_of_HT2 [.tmp 2] Try.func83 Try.ntmps83 (by decide) rfl rfl (Nat.le_of_ble_eq_true rfl) ?_
  intro R hR
  replace h0 : R 0 = .int .i64 p0 := (hR 0 _ rfl).trans h0
  clear hR
  refine HT.seq ?_
  refine HT.text (l := ⟨_, true, .raw (.bool false)⟩ :: []) (tl := []) (by kernel_rfl) (by kernel_rfl) (by kernel_rfl) ?_ ?_
  · exact
      Obls.cons (Obl.plain rfl rfl fun R' w' hw hs hd => by exact of_assign rfl) <|
      Obls.nil
  intro R w hw hs hF'
  replace h0 : R 0 = .int .i64 p0 := (hs 0 rfl).trans h0
  replace hA := hA.fr hw.size
  replace hF := hF.trans hw
  clear hs hF' hw
  refine seqR_nil ?_
  refine HT.seq ?_
  obtain ⟨x1, q2, hr⟩ := cl_some hr
  refine HT.text (l := ⟨_, true, .raw (.int .i64 p0)⟩ :: ⟨_, true, .raw (.bool x1)⟩ :: ⟨_, true, .raw (.bool x1)⟩ :: []) (tl := []) (by kernel_rfl) (by kernel_rfl) (by kernel_rfl) ?_ ?_
  · exact
      Obls.cons (Obl.plain rfl rfl fun R' w' hw hs hd => by have a0 : R' 0 = .int .i64 p0 := (hs 0 rfl).trans h0; exact of_move a0) <|
      Obls.cons (Obl.plain rfl rfl fun R' w' hw hs hd => by have a0 : R' 3 = .int .i64 p0 := hd 0 _ _ _ rfl rfl rfl rfl rfl; exact of_call Try.call114 (M_impl_within_ok (q2 rfl) (hA.fr hw.size) a0 rfl rfl)) <|
      Obls.cons (Obl.plain rfl rfl fun R' w' hw hs hd => by have a0 : R' 4 = .bool x1 := hd 0 _ _ _ rfl rfl rfl rfl rfl; exact of_assign a0) <|
      Obls.nil
  intro R w hw hs hF'
  have h2 : R 2 = .bool x1 := hF' 2 _ _ rfl rfl rfl
  replace hA := hA.fr hw.size
  replace hF := hF.trans hw
  clear hs hF' hw
  refine seqR_nil ?_
  refine HT.ret ?_
  obtain rfl := Option.some.inj hr
  exact ⟨.inr rfl, [R 2], ⟨rfl, trivial⟩, h2, hF⟩
def M_impl_isSetID (fu : Nat) (p0 : Int) : Option Bool :=
  cl true (M_impl_within fu p0 (0 : Int) (999 : Int)) fun x1 =>
  some x1
set_option maxRecDepth 100000 in
set_option maxHeartbeats 4000000 in
theorem M_impl_isSetID_ok {fu : Nat} {A : Av} {p0 : Int} {r : Bool} (hr : M_impl_isSetID fu p0 = some r) {w : World} {v0 : Value} (hA : AvOK A w) (h0 : v0 = .int .i64 p0) :
    Calls Try.prog 84 #[v0] w fun e w' => ∃ v, e = .returned v ∧ (v = .bool r ∧ Fr w w') := by
  unfold M_impl_isSetID at hr
  obtain ⟨w0, hw0⟩ : ∃ w0, w0 = w := ⟨_, rfl⟩
  have hF : Fr w0 w := hw0 ▸ Fr.refl _
  rw [show Fr w = Fr w0 from hw0 ▸ rfl]
  clear hw0
  refine calls_of_HT2 [.tmp 2] Try.func84 Try.ntmps84 (by decide) rfl rfl (Nat.le_of_ble_eq_true rfl) ?_
  intro R hR
  replace h0 : R 0 = .int .i64 p0 := (hR 0 _ rfl).trans h0
  clear hR
  refine HT.seq ?_
  refine HT.text (l := ⟨_, true, .raw (.bool false)⟩ :: []) (tl := []) (by kernel_rfl) (by kernel_rfl) (by kernel_rfl) ?_ ?_
  · exact
      Obls.cons (Obl.plain rfl rfl fun R' w' hw hs hd => by exact of_assign rfl) <|
      Obls.nil
  intro R w hw hs hF'
  replace h0 : R 0 = .int .i64 p0 := (hs 0 rfl).trans h0
  replace hA := hA.fr hw.size
  replace hF := hF.trans hw
  clear hs hF' hw
  refine seqR_nil ?_
  refine HT.seq ?_
  obtain ⟨x1, q2, hr⟩ := cl_some hr
  refine HT.text (l := ⟨_, true, .raw (.int .i64 p0)⟩ :: ⟨_, true, .raw (.bool x1)⟩ :: ⟨_, true, .raw (.bool x1)⟩ :: []) (tl := []) (by kernel_rfl) (by kernel_rfl) (by kernel_rfl) ?_ ?_
  · exact
      Obls.cons (Obl.plain rfl rfl fun R' w' hw hs hd => by have a0 : R' 0 = .int .i64 p0 := (hs 0 rfl).trans h0; exact of_move a0) <|
      Obls.cons (Obl.plain rfl rfl fun R' w' hw hs hd => by have a0 : R' 3 = .int .i64 p0 := hd 0 _ _ _ rfl rfl rfl rfl rfl; exact of_call Try.call114 (M_impl_within_ok (q2 rfl) (hA.fr hw.size) a0 rfl rfl)) <|
      Obls.cons (Obl.plain rfl rfl fun R' w' hw hs hd => by have a0 : R' 4 = .bool x1 := hd 0 _ _ _ rfl rfl rfl rfl rfl; exact of_assign a0) <|
      Obls.nil
  intro R w hw hs hF'
  have h2 : R 2 = .bool x1 := hF' 2 _ _ rfl rfl rfl
  replace hA := hA.fr hw.size
  replace hF := hF.trans hw
  clear hs hF' hw
  refine seqR_nil ?_
  refine HT.ret ?_
  obtain rfl := Option.some.inj hr
  exact ⟨.inr rfl, [R 2], ⟨rfl, trivial⟩, h2, hF⟩
def M_impl_isSmall (fu : Nat) (p0 : Int) : Option Bool :=
  bd ((decide ((97 : Int) ≤ p0)) && (decide (p0 ≤ (122 : Int)))) fun x1 =>
  some x1
set_option maxRecDepth 100000 in
set_option maxHeartbeats 4000000 in
theorem M_impl_isSmall_ok {fu : Nat} {A : Av} {p0 : Int} {r : Bool} (hr : M_impl_isSmall fu p0 = some r) {w : World} {v0 : Value} (hA : AvOK A w) (h0 : v0 = .int .u8 p0) :
    Calls Try.prog 150 #[v0] w fun e w' => ∃ v, e = .returned v ∧ (v = .bool r ∧ Fr w w') := by
  unfold M_impl_isSmall at hr
  obtain ⟨w0, hw0⟩ : ∃ w0, w0 = w := ⟨_, rfl⟩
  have hF : Fr w0 w := hw0 ▸ Fr.refl _
  rw [show Fr w = Fr w0 from hw0 ▸ rfl]
  clear hw0
  refine calls_of_HT2 [.tmp 2] Try.func150 Try.ntmps150 (by decide) rfl rfl (Nat.le_of_ble_eq_true rfl) ?_
  intro R hR
  replace h0 : R 0 = .int .u8 p0 := (hR 0 _ rfl).trans h0
  clear hR
  refine HT.seq ?_
  refine HT.text (l := ⟨_, true, .raw (.bool false)⟩ :: []) (tl := []) (by kernel_rfl) (by kernel_rfl) (by kernel_rfl) ?_ ?_
  · exact
      Obls.cons (Obl.plain rfl rfl fun R' w' hw hs hd => by exact of_assign rfl) <|
      Obls.nil
  intro R w hw hs hF'
  replace h0 : R 0 = .int .u8 p0 := (hs 0 rfl).trans h0
  replace hA := hA.fr hw.size
  replace hF := hF.trans hw
  clear hs hF' hw
  refine seqR_nil ?_
  refine HT.seq ?_
  obtain ⟨x1, q2, hr⟩ := bd_some hr
  refine HT.text (l := ⟨_, true, .raw (.int .u8 p0)⟩ :: ⟨_, true, .raw (.bool (decide ((97 : Int) ≤ p0)))⟩ :: ⟨_, true, .raw (.bool (decide ((97 : Int) ≤ p0)))⟩ :: ⟨_, (true && ((decide ((97 : Int) ≤ p0)) == true)), .raw (.int .u8 p0)⟩ :: ⟨_, (true && ((decide ((97 : Int) ≤ p0)) == true)), .raw (.bool (decide (p0 ≤ (122 : Int))))⟩ :: ⟨_, true, .raw (.bool x1)⟩ :: ⟨_, true, .raw (.bool x1)⟩ :: []) (tl := []) (by kernel_rfl) (by kernel_rfl) (by kernel_rfl) ?_ ?_
  · exact
      Obls.cons (Obl.plain rfl rfl fun R' w' hw hs hd => by have a0 : R' 0 = .int .u8 p0 := (hs 0 rfl).trans h0; exact of_move a0) <|
      Obls.cons (Obl.plain rfl rfl fun R' w' hw hs hd => by have a0 : R' 3 = .int .u8 p0 := hd 0 _ _ _ rfl rfl rfl rfl rfl; exact of_geq a0 rfl) <|
      Obls.cons (Obl.plain rfl rfl fun R' w' hw hs hd => by have a0 : R' 4 = .bool (decide ((97 : Int) ≤ p0)) := hd 0 _ _ _ rfl rfl rfl rfl rfl; exact of_move a0) <|
      Obls.cons (Obl.grd 2 true _ _ _ rfl rfl rfl rfl rfl (by kernel_rfl) fun hg R' w' hw hs hd => by have a0 : R' 0 = .int .u8 p0 := (hs 0 rfl).trans h0; exact of_move a0) <|
      Obls.cons (Obl.grd 2 true _ _ _ rfl rfl rfl rfl rfl (by kernel_rfl) fun hg R' w' hw hs hd => by have a0 : R' 6 = .int .u8 p0 := hd 0 _ _ _ rfl rfl rfl rfl hg; exact of_leq a0 rfl) <|
      Obls.cons (Obl.plain rfl rfl fun R' w' hw hs hd => by have a0 : R' 5 = .bool (decide ((97 : Int) ≤ p0)) := hd 0 _ _ _ rfl rfl rfl rfl rfl; exact of_pick (decide ((97 : Int) ≤ p0)) a0 (fun hc => by have a1 : R' 7 = .bool (decide (p0 ≤ (122 : Int))) := hd 1 _ _ _ rfl rfl rfl rfl (g_and rfl (beq_of hc)); show _ = Value.bool x1; rw [q2, hc]; exact a1) (fun hc => by show _ = Value.bool x1; rw [q2, hc]; exact rfl)) <|
      Obls.cons (Obl.plain rfl rfl fun R' w' hw hs hd => by have a0 : R' 8 = .bool x1 := hd 0 _ _ _ rfl rfl rfl rfl rfl; exact of_assign a0) <|
      Obls.nil
  intro R w hw hs hF'
  have h2 : R 2 = .bool x1 := hF' 6 _ _ rfl rfl rfl
  replace hA := hA.fr hw.size
  replace hF := hF.trans hw
  clear hs hF' hw
  refine seqR_nil ?_
  refine HT.ret ?_
  obtain rfl := Option.some.inj hr
  exact ⟨.inr rfl, [R 2], ⟨rfl, trivial⟩, h2, hF⟩
def M_impl_isDigit (fu : Nat) (p0 : Int) : Option Bool :=
  bd ((decide ((48 : Int) ≤ p0)) && (decide (p0 ≤ (57 : Int)))) fun x1 =>
  some x1
set_option maxRecDepth 100000 in
set_option maxHeartbeats 4000000 in
theorem M_impl_isDigit_ok {fu : Nat} {A : Av} {p0 : Int} {r : Bool} (hr : M_impl_isDigit fu p0 = some r) {w : World} {v0 : Value} (hA : AvOK A w) (h0 : v0 = .int .u8 p0) :
    Calls Try.prog 151 #[v0] w fun e w' => ∃ v, e = .returned v ∧ (v = .bool r ∧ Fr w w') := by
  unfold M_impl_isDigit at hr
  obtain ⟨w0, hw0⟩ : ∃ w0, w0 = w := ⟨_, rfl⟩
  have hF : Fr w0 w := hw0 ▸ Fr.refl _
  rw [show Fr w = Fr w0 from hw0 ▸ rfl]
  clear hw0
  refine calls_of_HT2 [.tmp 2] Try.func151 Try.ntmps151 (by decide) rfl rfl (Nat.le_of_ble_eq_true rfl) ?_
  intro R hR
  replace h0 : R 0 = .int .u8 p0 := (hR 0 _ rfl).trans h0
  clear hR
  refine HT.seq ?_
  refine HT.text (l := ⟨_, true, .raw (.bool false)⟩ :: []) (tl := []) (by kernel_rfl) (by kernel_rfl) (by kernel_rfl) ?_ ?_
  · exact
      Obls.cons (Obl.plain rfl rfl fun R' w' hw hs hd => by exact of_assign rfl) <|
      Obls.nil
  intro R w hw hs hF'
  replace h0 : R 0 = .int .u8 p0 := (hs 0 rfl).trans h0
  replace hA := hA.fr hw.size
  replace hF := hF.trans hw
  clear hs hF' hw
  refine seqR_nil ?_
  refine HT.seq ?_
  obtain ⟨x1, q2, hr⟩ := bd_some hr
  refine HT.text (l := ⟨_, true, .raw (.int .u8 p0)⟩ :: ⟨_, true, .raw (.bool (decide ((48 : Int) ≤ p0)))⟩ :: ⟨_, true, .raw (.bool (decide ((48 : Int) ≤ p0)))⟩ :: ⟨_, (true && ((decide ((48 : Int) ≤ p0)) == true)), .raw (.int .u8 p0)⟩ :: ⟨_, (true && ((decide ((48 : Int) ≤ p0)) == true)), .raw (.bool (decide (p0 ≤ (57 : Int))))⟩ :: ⟨_, true, .raw (.bool x1)⟩ :: ⟨_, true, .raw (.bool x1)⟩ :: []) (tl := []) (by kernel_rfl) (by kernel_rfl) (by kernel_rfl) ?_ ?_
  · exact
      Obls.cons (Obl.plain rfl rfl fun R' w' hw hs hd => by have a0 : R' 0 = .int .u8 p0 := (hs 0 rfl).trans h0; exact of_move a0) <|
      Obls.cons (Obl.plain rfl rfl fun R' w' hw hs hd => by have a0 : R' 3 = .int .u8 p0 := hd 0 _ _ _ rfl rfl rfl rfl rfl; exact of_geq a0 rfl) <|
      Obls.cons (Obl.plain rfl rfl fun R' w' hw hs hd => by have a0 : R' 4 = .bool (decide ((48 : Int) ≤ p0)) := hd 0 _ _ _ rfl rfl rfl rfl rfl; exact of_move a0) <|
      Obls.cons (Obl.grd 2 true _ _ _ rfl rfl rfl rfl rfl (by kernel_rfl) fun hg R' w' hw hs hd => by have a0 : R' 0 = .int .u8 p0 := (hs 0 rfl).trans h0; exact of_move a0) <|
      Obls.cons (Obl.grd 2 true _ _ _ rfl rfl rfl rfl rfl (by kernel_rfl) fun hg R' w' hw hs hd => by have a0 : R' 6 = .int .u8 p0 := hd 0 _ _ _ rfl rfl rfl rfl hg; exact of_leq a0 rfl) <|
      Obls.cons (Obl.plain rfl rfl fun R' w' hw hs hd => by have a0 : R' 5 = .bool (decide ((48 : Int) ≤ p0)) := hd 0 _ _ _ rfl rfl rfl rfl rfl; exact of_pick (decide ((48 : Int) ≤ p0)) a0 (fun hc => by have a1 : R' 7 = .bool (decide (p0 ≤ (57 : Int))) := hd 1 _ _ _ rfl rfl rfl rfl (g_and rfl (beq_of hc)); show _ = Value.bool x1; rw [q2, hc]; exact a1) (fun hc => by show _ = Value.bool x1; rw [q2, hc]; exact rfl)) <|
      Obls.cons (Obl.plain rfl rfl fun R' w' hw hs hd => by have a0 : R' 8 = .bool x1 := hd 0 _ _ _ rfl rfl rfl rfl rfl; exact of_assign a0) <|
      Obls.nil
  intro R w hw hs hF'
  have h2 : R 2 = .bool x1 := hF' 6 _ _ rfl rfl rfl
  replace hA := hA.fr hw.size
  replace hF := hF.trans hw
  clear hs hF' hw
  refine seqR_nil ?_
  refine HT.ret ?_
  obtain rfl := Option.some.inj hr
  exact ⟨.inr rfl, [R 2], ⟨rfl, trivial⟩, h2, hF⟩
def M_impl_isAlphanumeric_L0 (fu : Nat) (p0 : List UInt8) : Nat → Int → Option (Ex Bool Unit)
  | 0, _ => none
  | k + 1, y4 =>
    bif (decide (y4 < (p0.length : Int))) then (
      ck (inR y4 p0.length) <|
      cl true (M_impl_isSmall fu (bAt p0 y4)) fun x7 =>
      ck (!(true && ((!x7) == true)) || inR y4 p0.length) <|
      cl (true && ((!x7) == true)) (M_impl_isDigit fu (bAt p0 y4)) fun x10 =>
      bd ((!x7) && (!x10)) fun x12 =>
      bif x12 then (
        some (Ex.ret false)
      ) else (
        ck (i64B (y4 + (1 : Int))) <|
        M_impl_isAlphanumeric_L0 fu p0 k (y4 + (1 : Int))
      )
    ) else (
      some (Ex.go ())
    )
def M_impl_isAlphanumeric (fu : Nat) (p0 : List UInt8) : Option Bool :=
  cl true (M_impl_isAlphanumeric_L0 fu p0 fu (0 : Int)) fun rl1 =>
  exM rl1 (fun r => some r) fun s3 =>
  some true
set_option maxRecDepth 100000 in
set_option maxHeartbeats 4000000 in
theorem M_impl_isAlphanumeric_ok {fu : Nat} {A : Av} {p0 : List UInt8} {r : Bool} (hr : M_impl_isAlphanumeric fu p0 = some r) {w : World} {v0 : Value} (hA : AvOK A w) (h0 : Rep eStr A w v0 p0) :
    Calls Try.prog 111 #[v0] w fun e w' => ∃ v, e = .returned v ∧ (v = .bool r ∧ Fr w w') := by
  unfold M_impl_isAlphanumeric at hr
  obtain ⟨w0, hw0⟩ : ∃ w0, w0 = w := ⟨_, rfl⟩
  have hF : Fr w0 w := hw0 ▸ Fr.refl _
  rw [show Fr w = Fr w0 from hw0 ▸ rfl]
  clear hw0
  refine calls_of_HT2 [.tmp 2] Try.func111 Try.ntmps111 (by decide) rfl rfl (Nat.le_of_ble_eq_true rfl) ?_
  intro R hR
  have f_v0 := h0
  replace h0 : R 0 = v0 := hR 0 _ rfl
  clear hR
  refine HT.seq ?_
  refine HT.text (l := ⟨_, true, .raw (.bool false)⟩ :: []) (tl := []) (by kernel_rfl) (by kernel_rfl) (by kernel_rfl) ?_ ?_
  · exact
      Obls.cons (Obl.plain rfl rfl fun R' w' hw hs hd => by exact of_assign rfl) <|
      Obls.nil
  intro R w hw hs hF'
  replace h0 : R 0 = v0 := (hs 0 rfl).trans h0
  replace f_v0 := f_v0.fr hw
  replace hA := hA.fr hw.size
  replace hF := hF.trans hw
  clear hs hF' hw
  refine seqR_nil ?_
  refine HT.seq ?_
  refine HT.seq ?_
  refine HT.text (l := ⟨_, true, .raw v0⟩ :: ⟨_, true, .raw (.int .i64 (p0.length : Int))⟩ :: ⟨_, true, .raw (.int .i64 (0 : Int))⟩ :: []) (tl := []) (by kernel_rfl) (by kernel_rfl) (by kernel_rfl) ?_ ?_
  · exact
      Obls.cons (Obl.plain rfl rfl fun R' w' hw hs hd => by have a0 : R' 0 = v0 := (hs 0 rfl).trans h0; exact of_move a0) <|
      Obls.cons (Obl.plain rfl rfl fun R' w' hw hs hd => by have a0 : R' 4 = v0 := hd 0 _ _ _ rfl rfl rfl rfl rfl; have ra0 := (f_v0.fr hw).eq a0; exact of_len_str ra0 Try.underlying9) <|
      Obls.cons (Obl.plain rfl rfl fun R' w' hw hs hd => by exact of_move rfl) <|
      Obls.nil
  intro R w hw hs hF'
  replace h0 : R 0 = v0 := (hs 0 rfl).trans h0
  have h5 : R 5 = .int .i64 (p0.length : Int) := hF' 1 _ _ rfl rfl rfl
  have h6 : R 6 = .int .i64 (0 : Int) := hF' 2 _ _ rfl rfl rfl
  replace f_v0 := f_v0.fr hw
  replace hA := hA.fr hw.size
  replace hF := hF.trans hw
  clear hs hF' hw
  refine seqR_nil ?_
  obtain ⟨rl1, q2, hr⟩ := cl_some hr
  replace q2 := q2 rfl
  refine HT.cut0 (fun R w => ∃ (s3 : Unit), rl1 = Ex.go s3 ∧ AvOK A w ∧ Fr w0 w) ?_ ?_
  · refine HT.block ?_
    refine HT.loop (fun k R w => ∃ (y4 : Int), M_impl_isAlphanumeric_L0 fu p0 k y4 = some rl1 ∧ AvOK A w ∧ Fr w0 w ∧ R 0 = v0 ∧ R 5 = .int .i64 (p0.length : Int) ∧ R 6 = .int .i64 y4 ∧ Rep eStr A w v0 p0) fu ⟨_, q2, hA, hF, h0, h5, h6, f_v0⟩ ?_
    have hr0 := hr; clear hr q2
    rintro k R w ⟨y4, hr, hA, hF, h0, h5, h6, f_v0⟩
    rcases k with _ | k
    · cases (show none = some _ from hr)
    rw [M_impl_isAlphanumeric_L0] at hr
    refine HT.seq ?_
    refine HT.text (l := ⟨_, true, .raw (.bool (decide (y4 < (p0.length : Int))))⟩ :: []) (tl := []) (by kernel_rfl) (by kernel_rfl) (by kernel_rfl) ?_ ?_
    · exact
        Obls.cons (Obl.plain rfl rfl fun R' w' hw hs hd => by have a0 : R' 6 = .int .i64 y4 := (hs 6 rfl).trans h6; have a1 : R' 5 = .int .i64 (p0.length : Int) := (hs 5 rfl).trans h5; exact of_lss a0 a1) <|
        Obls.nil
    intro R w hw hs hF'
    replace h0 : R 0 = v0 := (hs 0 rfl).trans h0
    replace h5 : R 5 = .int .i64 (p0.length : Int) := (hs 5 rfl).trans h5
    replace h6 : R 6 = .int .i64 y4 := (hs 6 rfl).trans h6
    have h7 : R 7 = .bool (decide (y4 < (p0.length : Int))) := hF' 0 _ _ rfl rfl rfl
    replace f_v0 := f_v0.fr hw
    replace hA := hA.fr hw.size
    replace hF := hF.trans hw
    clear hs hF' hw
    refine seqR_nil ?_
    refine HT.seq ?_
    refine HT.cond (decide (y4 < (p0.length : Int))) h7 (fun c5 => ?_) (fun c5 => ?_)
    · have hr := cnd_t c5 hr
      refine HT.skip ?_
      refine HT.seq ?_
      refine HT.block ?_
      refine HT.seq ?_
      refine HT.text (l := ⟨_, true, .raw (.int .i64 y4)⟩ :: ⟨_, true, .raw (.int .i64 y4)⟩ :: []) (tl := []) (by kernel_rfl) (by kernel_rfl) (by kernel_rfl) ?_ ?_
      · exact
          Obls.cons (Obl.plain rfl rfl fun R' w' hw hs hd => by have a0 : R' 6 = .int .i64 y4 := (hs 6 rfl).trans h6; exact of_move a0) <|
          Obls.cons (Obl.plain rfl rfl fun R' w' hw hs hd => by have a0 : R' 8 = .int .i64 y4 := hd 0 _ _ _ rfl rfl rfl rfl rfl; exact of_assign a0) <|
          Obls.nil
      intro R w hw hs hF'
      replace h0 : R 0 = v0 := (hs 0 rfl).trans h0
      replace h5 : R 5 = .int .i64 (p0.length : Int) := (hs 5 rfl).trans h5
      replace h6 : R 6 = .int .i64 y4 := (hs 6 rfl).trans h6
      have h3 : R 3 = .int .i64 y4 := hF' 1 _ _ rfl rfl rfl
      replace f_v0 := f_v0.fr hw
      replace hA := hA.fr hw.size
      replace hF := hF.trans hw
      clear hs hF' hw
      refine seqR_nil ?_
      refine HT.seq ?_
      obtain ⟨e6, hr⟩ := ck_some hr
      obtain ⟨x7, q8, hr⟩ := cl_some hr
      obtain ⟨e9, hr⟩ := ck_some hr
      obtain ⟨x10, q11, hr⟩ := cl_some hr
      obtain ⟨x12, q13, hr⟩ := bd_some hr
      refine HT.text (l := ⟨_, true, .raw v0⟩ :: ⟨_, true, .raw (.int .i64 y4)⟩ :: ⟨_, true, .raw (.int .u8 (bAt p0 y4))⟩ :: ⟨_, true, .raw (.bool x7)⟩ :: ⟨_, true, .raw (.bool (!x7))⟩ :: ⟨_, true, .raw (.bool (!x7))⟩ :: ⟨_, (true && ((!x7) == true)), .raw v0⟩ :: ⟨_, (true && ((!x7) == true)), .raw (.int .i64 y4)⟩ :: ⟨_, (true && ((!x7) == true)), .raw (.int .u8 (bAt p0 y4))⟩ :: ⟨_, (true && ((!x7) == true)), .raw (.bool x10)⟩ :: ⟨_, (true && ((!x7) == true)), .raw (.bool (!x10))⟩ :: ⟨_, true, .raw (.bool x12)⟩ :: []) (tl := []) (by kernel_rfl) (by kernel_rfl) (by kernel_rfl) ?_ ?_
      · exact
          Obls.cons (Obl.plain rfl rfl fun R' w' hw hs hd => by have a0 : R' 0 = v0 := (hs 0 rfl).trans h0; exact of_move a0) <|
          Obls.cons (Obl.plain rfl rfl fun R' w' hw hs hd => by have a0 : R' 3 = .int .i64 y4 := (hs 3 rfl).trans h3; exact of_move a0) <|
          Obls.cons (Obl.plain rfl rfl fun R' w' hw hs hd => by have a0 : R' 9 = v0 := hd 0 _ _ _ rfl rfl rfl rfl rfl; have ra0 := (f_v0.fr hw).eq a0; have a1 : R' 10 = .int .i64 y4 := hd 1 _ _ _ rfl rfl rfl rfl rfl; exact of_strIndex ra0 a1 Try.underlying9 e6) <|
          Obls.cons (Obl.plain rfl rfl fun R' w' hw hs hd => by have a0 : R' 11 = .int .u8 (bAt p0 y4) := hd 0 _ _ _ rfl rfl rfl rfl rfl; exact of_call Try.call150 (M_impl_isSmall_ok (q8 rfl) (hA.fr hw.size) a0)) <|
          Obls.cons (Obl.plain rfl rfl fun R' w' hw hs hd => by have a0 : R' 12 = .bool x7 := hd 0 _ _ _ rfl rfl rfl rfl rfl; exact of_not a0) <|
          Obls.cons (Obl.plain rfl rfl fun R' w' hw hs hd => by have a0 : R' 13 = .bool (!x7) := hd 0 _ _ _ rfl rfl rfl rfl rfl; exact of_move a0) <|
          Obls.cons (Obl.grd 5 true _ _ _ rfl rfl rfl rfl rfl (by kernel_rfl) fun hg R' w' hw hs hd => by have a0 : R' 0 = v0 := (hs 0 rfl).trans h0; exact of_move a0) <|
          Obls.cons (Obl.grd 5 true _ _ _ rfl rfl rfl rfl rfl (by kernel_rfl) fun hg R' w' hw hs hd => by have a0 : R' 3 = .int .i64 y4 := (hs 3 rfl).trans h3; exact of_move a0) <|
          Obls.cons (Obl.grd 5 true _ _ _ rfl rfl rfl rfl rfl (by kernel_rfl) fun hg R' w' hw hs hd => by have a0 : R' 15 = v0 := hd 0 _ _ _ rfl rfl rfl rfl hg; have ra0 := (f_v0.fr hw).eq a0; have a1 : R' 16 = .int .i64 y4 := hd 1 _ _ _ rfl rfl rfl rfl hg; exact of_strIndex ra0 a1 Try.underlying9 (gd e9 hg)) <|
          Obls.cons (Obl.grd 5 true _ _ _ rfl rfl rfl rfl rfl (by kernel_rfl) fun hg R' w' hw hs hd => by have a0 : R' 17 = .int .u8 (bAt p0 y4) := hd 0 _ _ _ rfl rfl rfl rfl hg; exact of_call Try.call151 (M_impl_isDigit_ok (q11 hg) (hA.fr hw.size) a0)) <|
          Obls.cons (Obl.grd 5 true _ _ _ rfl rfl rfl rfl rfl (by kernel_rfl) fun hg R' w' hw hs hd => by have a0 : R' 18 = .bool x10 := hd 0 _ _ _ rfl rfl rfl rfl hg; exact of_not a0) <|
          Obls.cons (Obl.plain rfl rfl fun R' w' hw hs hd => by have a0 : R' 14 = .bool (!x7) := hd 0 _ _ _ rfl rfl rfl rfl rfl; exact of_pick (!x7) a0 (fun hc => by have a1 : R' 19 = .bool (!x10) := hd 1 _ _ _ rfl rfl rfl rfl (g_and rfl (beq_of hc)); show _ = Value.bool x12; rw [q13, hc]; exact a1) (fun hc => by show _ = Value.bool x12; rw [q13, hc]; exact rfl)) <|
          Obls.nil
      intro R w hw hs hF'
      replace h0 : R 0 = v0 := (hs 0 rfl).trans h0
      replace h5 : R 5 = .int .i64 (p0.length : Int) := (hs 5 rfl).trans h5
      replace h6 : R 6 = .int .i64 y4 := (hs 6 rfl).trans h6
      have h20 : R 20 = .bool x12 := hF' 11 _ _ rfl rfl rfl
      replace f_v0 := f_v0.fr hw
      replace hA := hA.fr hw.size
      replace hF := hF.trans hw
      clear hs hF' hw
      refine seqR_nil ?_
      refine HT.cond x12 h20 (fun c14 => ?_) (fun c14 => ?_)
      · have hr := cnd_t c14 hr
        refine HT.seq ?_
        refine HT.text (l := ⟨_, true, .raw (.bool false)⟩ :: []) (tl := []) (by kernel_rfl) (by kernel_rfl) (by kernel_rfl) ?_ ?_
        · exact
            Obls.cons (Obl.plain rfl rfl fun R' w' hw hs hd => by exact of_assign rfl) <|
            Obls.nil
        intro R w hw hs hF'
        have h2 : R 2 = .bool false := hF' 0 _ _ rfl rfl rfl
        replace hA := hA.fr hw.size
        replace hF := hF.trans hw
        clear hs hF' hw
        refine seqR_nil ?_
        refine HT.ret ?_
        obtain rfl := Option.some.inj hr
        have hr := hr0
        replace hr : some _ = some _ := hr
        obtain rfl := Option.some.inj hr
        exact ⟨.inr rfl, [R 2], ⟨rfl, trivial⟩, h2, hF⟩
      · have hr := cnd_f c14 hr
        refine HT.skip ?_
        obtain ⟨e15, hr⟩ := ck_some hr
        refine HT.text (l := ⟨_, true, .raw (.int .i64 (y4 + (1 : Int)))⟩ :: ⟨_, true, .raw (.int .i64 (y4 + (1 : Int)))⟩ :: []) (tl := []) (by kernel_rfl) (by kernel_rfl) (by kernel_rfl) ?_ ?_
        · exact
            Obls.cons (Obl.plain rfl rfl fun R' w' hw hs hd => by have a0 : R' 6 = .int .i64 y4 := (hs 6 rfl).trans h6; exact of_add a0 rfl e15) <|
            Obls.cons (Obl.plain rfl rfl fun R' w' hw hs hd => by have a0 : R' 21 = .int .i64 (y4 + (1 : Int)) := hd 0 _ _ _ rfl rfl rfl rfl rfl; exact of_move a0) <|
            Obls.nil
        intro R w hw hs hF'
        replace h0 : R 0 = v0 := (hs 0 rfl).trans h0
        replace h5 : R 5 = .int .i64 (p0.length : Int) := (hs 5 rfl).trans h5
        have h6 : R 6 = .int .i64 (y4 + (1 : Int)) := hF' 1 _ _ rfl rfl rfl
        replace f_v0 := f_v0.fr hw
        replace hA := hA.fr hw.size
        replace hF := hF.trans hw
        clear hs hF' hw
        refine seqR_nil ?_
        exact Exists.intro k (And.intro (Nat.lt_succ_self k) ⟨_, hr, hA, hF, h0, h5, h6, f_v0⟩)
    · have hr := cnd_f c5 hr
      refine HT.exit ?_
      obtain rfl := Option.some.inj hr
      exact Exists.intro _ ⟨rfl, hA, hF⟩
  rintro R w ⟨s3, rfl, hA, hF⟩
  have hr := exM_go hr
  refine HT.seq ?_
  refine HT.text (l := ⟨_, true, .raw (.bool true)⟩ :: []) (tl := []) (by kernel_rfl) (by kernel_rfl) (by kernel_rfl) ?_ ?_
  · exact
      Obls.cons (Obl.plain rfl rfl fun R' w' hw hs hd => by exact of_assign rfl) <|
      Obls.nil
  intro R w hw hs hF'
  have h2 : R 2 = .bool true := hF' 0 _ _ rfl rfl rfl
  replace hA := hA.fr hw.size
  replace hF := hF.trans hw
  clear hs hF' hw
  refine seqR_nil ?_
  refine HT.ret ?_
  obtain rfl := Option.some.inj hr
  exact ⟨.inr rfl, [R 2], ⟨rfl, trivial⟩, h2, hF⟩
def M_impl_IsTokenSet_L0 (fu : Nat) (p0 : List (List UInt8)) : Nat → Int → Option (Ex Bool Unit)
  | 0, _ => none
  | k + 1, y4 =>
    bif (decide (y4 < (p0.length : Int))) then (
      ck (inR y4 p0.length) <|
      cl (true && (((gtD p0 y4) == ([] : List UInt8)) == false)) (M_impl_isAlphanumeric fu (gtD p0 y4)) fun x8 =>
      bd (((gtD p0 y4) == ([] : List UInt8)) || (!x8)) fun x10 =>
      ck (!((true && (x10 == false)) && ((decide ((0 : Int) < y4)) == true)) || i64B (y4 - (1 : Int))) <|
      ck (!((true && (x10 == false)) && ((decide ((0 : Int) < y4)) == true)) || inR (y4 - (1 : Int)) p0.length) <|
      bd ((decide ((0 : Int) < y4)) && (!(bLt (gtD p0 (y4 - (1 : Int))) (gtD p0 y4)))) fun x14 =>
      bd (x10 || x14) fun x16 =>
      bif x16 then (
        some (Ex.ret false)
      ) else (
        ck (i64B (y4 + (1 : Int))) <|
        M_impl_IsTokenSet_L0 fu p0 k (y4 + (1 : Int))
      )
    ) else (
      some (Ex.go ())
    )
def M_impl_IsTokenSet (fu : Nat) (p0 : List (List UInt8)) : Option Bool :=
  cl true (M_impl_IsTokenSet_L0 fu p0 fu (0 : Int)) fun rl1 =>
  exM rl1 (fun r => some r) fun s3 =>
  some true
set_option maxRecDepth 100000 in
set_option maxHeartbeats 4000000 in
theorem M_impl_IsTokenSet_ok {fu : Nat} {A : Av} {p0 : List (List UInt8)} {r : Bool} (hr : M_impl_IsTokenSet fu p0 = some r) {w : World} {v0 : Value} (hA : AvOK A w) (h0 : Rep (eSl eStr) A w v0 p0) :
    Calls Try.prog 77 #[v0] w fun e w' => ∃ v, e = .returned v ∧ (v = .bool r ∧ Fr w w') := by
  unfold M_impl_IsTokenSet at hr
  obtain ⟨w0, hw0⟩ : ∃ w0, w0 = w := ⟨_, rfl⟩
  have hF : Fr w0 w := hw0 ▸ Fr.refl _
  rw [show Fr w = Fr w0 from hw0 ▸ rfl]
  clear hw0
  refine calls_of_HT2 [.tmp 2] Try.func77 Try.ntmps77 (by decide) rfl rfl (Nat.le_of_ble_eq_true rfl) ?_
  intro R hR
  have f_v0 := h0
  replace h0 : R 0 = v0 := hR 0 _ rfl
  clear hR
  refine HT.seq ?_
  refine HT.text (l := ⟨_, true, .raw (.bool false)⟩ :: []) (tl := []) (by kernel_rfl) (by kernel_rfl) (by kernel_rfl) ?_ ?_
  · exact
      Obls.cons (Obl.plain rfl rfl fun R' w' hw hs hd => by exact of_assign rfl) <|
      Obls.nil
  intro R w hw hs hF'
  replace h0 : R 0 = v0 := (hs 0 rfl).trans h0
  replace f_v0 := f_v0.fr hw
  replace hA := hA.fr hw.size
  replace hF := hF.trans hw
  clear hs hF' hw
  refine seqR_nil ?_
  refine HT.seq ?_
  refine HT.seq ?_
  refine HT.text (l := ⟨_, true, .raw v0⟩ :: ⟨_, true, .raw (.int .i64 (p0.length : Int))⟩ :: ⟨_, true, .raw (.int .i64 (0 : Int))⟩ :: []) (tl := []) (by kernel_rfl) (by kernel_rfl) (by kernel_rfl) ?_ ?_
  · exact
      Obls.cons (Obl.plain rfl rfl fun R' w' hw hs hd => by have a0 : R' 0 = v0 := (hs 0 rfl).trans h0; exact of_move a0) <|
      Obls.cons (Obl.plain rfl rfl fun R' w' hw hs hd => by have a0 : R' 5 = v0 := hd 0 _ _ _ rfl rfl rfl rfl rfl; have ra0 := (f_v0.fr hw).eq a0; exact of_len_sl (aT := #[]) ra0 Try.underlying23) <|
      Obls.cons (Obl.plain rfl rfl fun R' w' hw hs hd => by exact of_move rfl) <|
      Obls.nil
  intro R w hw hs hF'
  replace h0 : R 0 = v0 := (hs 0 rfl).trans h0
  have h5 : R 5 = v0 := hF' 0 _ _ rfl rfl rfl
  have h6 : R 6 = .int .i64 (p0.length : Int) := hF' 1 _ _ rfl rfl rfl
  have h7 : R 7 = .int .i64 (0 : Int) := hF' 2 _ _ rfl rfl rfl
  replace f_v0 := f_v0.fr hw
  replace hA := hA.fr hw.size
  replace hF := hF.trans hw
  clear hs hF' hw
  refine seqR_nil ?_
  obtain ⟨rl1, q2, hr⟩ := cl_some hr
  replace q2 := q2 rfl
  refine HT.cut0 (fun R w => ∃ (s3 : Unit), rl1 = Ex.go s3 ∧ AvOK A w ∧ Fr w0 w) ?_ ?_
  · refine HT.block ?_
    refine HT.loop (fun k R w => ∃ (y4 : Int), M_impl_IsTokenSet_L0 fu p0 k y4 = some rl1 ∧ AvOK A w ∧ Fr w0 w ∧ R 0 = v0 ∧ R 5 = v0 ∧ R 6 = .int .i64 (p0.length : Int) ∧ R 7 = .int .i64 y4 ∧ Rep (eSl eStr) A w v0 p0) fu ⟨_, q2, hA, hF, h0, h5, h6, h7, f_v0⟩ ?_
    have hr0 := hr; clear hr q2
    rintro k R w ⟨y4, hr, hA, hF, h0, h5, h6, h7, f_v0⟩
    rcases k with _ | k
    · cases (show none = some _ from hr)
    rw [M_impl_IsTokenSet_L0] at hr
    refine HT.seq ?_
    refine HT.text (l := ⟨_, true, .raw (.bool (decide (y4 < (p0.length : Int))))⟩ :: []) (tl := []) (by kernel_rfl) (by kernel_rfl) (by kernel_rfl) ?_ ?_
    · exact
        Obls.cons (Obl.plain rfl rfl fun R' w' hw hs hd => by have a0 : R' 7 = .int .i64 y4 := (hs 7 rfl).trans h7; have a1 : R' 6 = .int .i64 (p0.length : Int) := (hs 6 rfl).trans h6; exact of_lss a0 a1) <|
        Obls.nil
    intro R w hw hs hF'
    replace h0 : R 0 = v0 := (hs 0 rfl).trans h0
    replace h5 : R 5 = v0 := (hs 5 rfl).trans h5
    replace h6 : R 6 = .int .i64 (p0.length : Int) := (hs 6 rfl).trans h6
    replace h7 : R 7 = .int .i64 y4 := (hs 7 rfl).trans h7
    have h8 : R 8 = .bool (decide (y4 < (p0.length : Int))) := hF' 0 _ _ rfl rfl rfl
    replace f_v0 := f_v0.fr hw
    replace hA := hA.fr hw.size
    replace hF := hF.trans hw
    clear hs hF' hw
    refine seqR_nil ?_
    refine HT.seq ?_
    refine HT.cond (decide (y4 < (p0.length : Int))) h8 (fun c5 => ?_) (fun c5 => ?_)
    · have hr := cnd_t c5 hr
      refine HT.skip ?_
      refine HT.seq ?_
      refine HT.block ?_
      refine HT.seq ?_
      obtain ⟨e6, hr⟩ := ck_some hr
      refine HT.text (l := ⟨_, true, .raw (.int .i64 y4)⟩ :: ⟨_, true, .qtr eStr A (gtD p0 y4)⟩ :: ⟨_, true, .rep eStr A (gtD p0 y4)⟩ :: ⟨_, true, .raw (.int .i64 y4)⟩ :: ⟨_, true, .rep eStr A (gtD p0 y4)⟩ :: []) (tl := []) (by kernel_rfl) (by kernel_rfl) (by kernel_rfl) ?_ ?_
      · exact
          Obls.cons (Obl.plain rfl rfl fun R' w' hw hs hd => by have a0 : R' 7 = .int .i64 y4 := (hs 7 rfl).trans h7; exact of_move a0) <|
          Obls.cons (Obl.plain rfl rfl fun R' w' hw hs hd => by have a0 : R' 5 = v0 := (hs 5 rfl).trans h5; have a1 : R' 7 = .int .i64 y4 := (hs 7 rfl).trans h7; have ra0 := (f_v0.fr hw).eq a0; exact of_indexAddr ra0 a1 Try.underlying23 Try.sizeOf9 e6) <|
          Obls.cons (Obl.plain rfl rfl fun R' w' hw hs hd => by have a0 : QRep eStr A w' (R' 10) (gtD p0 y4) := hd 0 _ _ _ rfl rfl rfl rfl rfl; exact (of_load a0.ptr Try.isAgg9 Try.sizeOf9)) <|
          Obls.cons (Obl.plain rfl rfl fun R' w' hw hs hd => by have a0 : R' 9 = .int .i64 y4 := hd 0 _ _ _ rfl rfl rfl rfl rfl; exact of_assign a0) <|
          Obls.cons (Obl.plain rfl rfl fun R' w' hw hs hd => by have a0 : Rep eStr A w' (R' 11) (gtD p0 y4) := hd 0 _ _ _ rfl rfl rfl rfl rfl; exact of_assign a0) <|
          Obls.nil
      intro R w hw hs hF'
      replace h0 : R 0 = v0 := (hs 0 rfl).trans h0
      replace h5 : R 5 = v0 := (hs 5 rfl).trans h5
      replace h6 : R 6 = .int .i64 (p0.length : Int) := (hs 6 rfl).trans h6
      replace h7 : R 7 = .int .i64 y4 := (hs 7 rfl).trans h7
      have h3 : R 3 = .int .i64 y4 := hF' 3 _ _ rfl rfl rfl
      obtain ⟨u7, h4, f_u7⟩ : ∃ u, R 4 = u ∧ Rep eStr A w u (gtD p0 y4) := ⟨_, rfl, hF' 4 _ _ rfl rfl rfl⟩
      replace f_v0 := f_v0.fr hw
      replace hA := hA.fr hw.size
      replace hF := hF.trans hw
      clear hs hF' hw
      refine seqR_nil ?_
      refine HT.seq ?_
      obtain ⟨x8, q9, hr⟩ := cl_some hr
      obtain ⟨x10, q11, hr⟩ := bd_some hr
      obtain ⟨e12, hr⟩ := ck_some hr
      obtain ⟨e13, hr⟩ := ck_some hr
      obtain ⟨x14, q15, hr⟩ := bd_some hr
      obtain ⟨x16, q17, hr⟩ := bd_some hr
      refine HT.text (l := ⟨_, true, .raw u7⟩ :: ⟨_, true, .raw (.bool ((gtD p0 y4) == ([] : List UInt8)))⟩ :: ⟨_, true, .raw (.bool ((gtD p0 y4) == ([] : List UInt8)))⟩ :: ⟨_, (true && (((gtD p0 y4) == ([] : List UInt8)) == false)), .raw u7⟩ :: ⟨_, (true && (((gtD p0 y4) == ([] : List UInt8)) == false)), .raw (.bool x8)⟩ :: ⟨_, (true && (((gtD p0 y4) == ([] : List UInt8)) == false)), .raw (.bool (!x8))⟩ :: ⟨_, true, .raw (.bool x10)⟩ :: ⟨_, true, .raw (.bool x10)⟩ :: ⟨_, (true && (x10 == false)), .raw (.int .i64 y4)⟩ :: ⟨_, (true && (x10 == false)), .raw (.bool (decide ((0 : Int) < y4)))⟩ :: ⟨_, (true && (x10 == false)), .raw (.bool (decide ((0 : Int) < y4)))⟩ :: ⟨_, ((true && (x10 == false)) && ((decide ((0 : Int) < y4)) == true)), .raw v0⟩ :: ⟨_, ((true && (x10 == false)) && ((decide ((0 : Int) < y4)) == true)), .raw (.int .i64 y4)⟩ :: ⟨_, ((true && (x10 == false)) && ((decide ((0 : Int) < y4)) == true)), .raw (.int .i64 (y4 - (1 : Int)))⟩ :: ⟨_, ((true && (x10 == false)) && ((decide ((0 : Int) < y4)) == true)), .qtr eStr A (gtD p0 (y4 - (1 : Int)))⟩ :: ⟨_, ((true && (x10 == false)) && ((decide ((0 : Int) < y4)) == true)), .rep eStr A (gtD p0 (y4 - (1 : Int)))⟩ :: ⟨_, ((true && (x10 == false)) && ((decide ((0 : Int) < y4)) == true)), .raw u7⟩ :: ⟨_, ((true && (x10 == false)) && ((decide ((0 : Int) < y4)) == true)), .raw (.bool (!(bLt (gtD p0 (y4 - (1 : Int))) (gtD p0 y4))))⟩ :: ⟨_, (true && (x10 == false)), .raw (.bool x14)⟩ :: ⟨_, true, .raw (.bool x16)⟩ :: []) (tl := []) (by kernel_rfl) (by kernel_rfl) (by kernel_rfl) ?_ ?_
      · exact
          Obls.cons (Obl.plain rfl rfl fun R' w' hw hs hd => by have a0 : R' 4 = u7 := (hs 4 rfl).trans h4; exact of_move a0) <|
          Obls.cons (Obl.plain rfl rfl fun R' w' hw hs hd => by have a0 : R' 12 = u7 := hd 0 _ _ _ rfl rfl rfl rfl rfl; have ra0 := (f_u7.fr hw).eq a0; exact of_seql ra0 ⟨_, rfl, ⟨_, rfl, rfl, by decide⟩⟩) <|
          Obls.cons (Obl.plain rfl rfl fun R' w' hw hs hd => by have a0 : R' 13 = .bool ((gtD p0 y4) == ([] : List UInt8)) := hd 0 _ _ _ rfl rfl rfl rfl rfl; exact of_move a0) <|
          Obls.cons (Obl.grd 2 false _ _ _ rfl rfl rfl rfl rfl (by kernel_rfl) fun hg R' w' hw hs hd => by have a0 : R' 4 = u7 := (hs 4 rfl).trans h4; exact of_move a0) <|
          Obls.cons (Obl.grd 2 false _ _ _ rfl rfl rfl rfl rfl (by kernel_rfl) fun hg R' w' hw hs hd => by have a0 : R' 15 = u7 := hd 0 _ _ _ rfl rfl rfl rfl hg; have ra0 := (f_u7.fr hw).eq a0; exact of_call Try.call111 (M_impl_isAlphanumeric_ok (q9 hg) (hA.fr hw.size) ra0)) <|
          Obls.cons (Obl.grd 2 false _ _ _ rfl rfl rfl rfl rfl (by kernel_rfl) fun hg R' w' hw hs hd => by have a0 : R' 16 = .bool x8 := hd 0 _ _ _ rfl rfl rfl rfl hg; exact of_not a0) <|
          Obls.cons (Obl.plain rfl rfl fun R' w' hw hs hd => by have a0 : R' 14 = .bool ((gtD p0 y4) == ([] : List UInt8)) := hd 0 _ _ _ rfl rfl rfl rfl rfl; exact of_pick ((gtD p0 y4) == ([] : List UInt8)) a0 (fun hc => by show _ = Value.bool x10; rw [q11, hc]; exact rfl) (fun hc => by have a2 : R' 17 = .bool (!x8) := hd 1 _ _ _ rfl rfl rfl rfl (g_and rfl (beq_of hc)); show _ = Value.bool x10; rw [q11, hc]; exact a2)) <|
          Obls.cons (Obl.plain rfl rfl fun R' w' hw hs hd => by have a0 : R' 18 = .bool x10 := hd 0 _ _ _ rfl rfl rfl rfl rfl; exact of_move a0) <|
          Obls.cons (Obl.grd 7 false _ _ _ rfl rfl rfl rfl rfl (by kernel_rfl) fun hg R' w' hw hs hd => by have a0 : R' 3 = .int .i64 y4 := (hs 3 rfl).trans h3; exact of_move a0) <|
          Obls.cons (Obl.grd 7 false _ _ _ rfl rfl rfl rfl rfl (by kernel_rfl) fun hg R' w' hw hs hd => by have a0 : R' 20 = .int .i64 y4 := hd 0 _ _ _ rfl rfl rfl rfl hg; exact of_gtr a0 rfl) <|
          Obls.cons (Obl.grd 7 false _ _ _ rfl rfl rfl rfl rfl (by kernel_rfl) fun hg R' w' hw hs hd => by have a0 : R' 21 = .bool (decide ((0 : Int) < y4)) := hd 0 _ _ _ rfl rfl rfl rfl hg; exact of_move a0) <|
          Obls.cons (Obl.grd 10 true _ _ _ rfl rfl rfl rfl rfl (by kernel_rfl) fun hg R' w' hw hs hd => by have a0 : R' 0 = v0 := (hs 0 rfl).trans h0; exact of_move a0) <|
          Obls.cons (Obl.grd 10 true _ _ _ rfl rfl rfl rfl rfl (by kernel_rfl) fun hg R' w' hw hs hd => by have a0 : R' 3 = .int .i64 y4 := (hs 3 rfl).trans h3; exact of_move a0) <|
          Obls.cons (Obl.grd 10 true _ _ _ rfl rfl rfl rfl rfl (by kernel_rfl) fun hg R' w' hw hs hd => by have a0 : R' 24 = .int .i64 y4 := hd 0 _ _ _ rfl rfl rfl rfl hg; exact of_sub a0 rfl (gd e12 hg)) <|
          Obls.cons (Obl.grd 10 true _ _ _ rfl rfl rfl rfl rfl (by kernel_rfl) fun hg R' w' hw hs hd => by have a0 : R' 23 = v0 := hd 0 _ _ _ rfl rfl rfl rfl hg; have a1 : R' 25 = .int .i64 (y4 - (1 : Int)) := hd 1 _ _ _ rfl rfl rfl rfl hg; have ra0 := (f_v0.fr hw).eq a0; exact of_indexAddr ra0 a1 Try.underlying23 Try.sizeOf9 (gd e13 hg)) <|
          Obls.cons (Obl.grd 10 true _ _ _ rfl rfl rfl rfl rfl (by kernel_rfl) fun hg R' w' hw hs hd => by have a0 : QRep eStr A w' (R' 26) (gtD p0 (y4 - (1 : Int))) := hd 0 _ _ _ rfl rfl rfl rfl hg; exact (of_load a0.ptr Try.isAgg9 Try.sizeOf9)) <|
          Obls.cons (Obl.grd 10 true _ _ _ rfl rfl rfl rfl rfl (by kernel_rfl) fun hg R' w' hw hs hd => by have a0 : R' 4 = u7 := (hs 4 rfl).trans h4; exact of_move a0) <|
          Obls.cons (Obl.grd 10 true _ _ _ rfl rfl rfl rfl rfl (by kernel_rfl) fun hg R' w' hw hs hd => by have a0 : Rep eStr A w' (R' 27) (gtD p0 (y4 - (1 : Int))) := hd 0 _ _ _ rfl rfl rfl rfl hg; have a1 : R' 28 = u7 := hd 1 _ _ _ rfl rfl rfl rfl hg; have ra1 := (f_u7.fr hw).eq a1; exact of_sgeq a0 ra1) <|
          Obls.cons (Obl.grd 7 false _ _ _ rfl rfl rfl rfl rfl (by kernel_rfl) fun hg R' w' hw hs hd => by have a0 : R' 22 = .bool (decide ((0 : Int) < y4)) := hd 0 _ _ _ rfl rfl rfl rfl hg; exact of_pick (decide ((0 : Int) < y4)) a0 (fun hc => by have a1 : R' 29 = .bool (!(bLt (gtD p0 (y4 - (1 : Int))) (gtD p0 y4))) := hd 1 _ _ _ rfl rfl rfl rfl (g_and hg (beq_of hc)); show _ = Value.bool x14; rw [q15, hc]; exact a1) (fun hc => by show _ = Value.bool x14; rw [q15, hc]; exact rfl)) <|
          Obls.cons (Obl.plain rfl rfl fun R' w' hw hs hd => by have a0 : R' 19 = .bool x10 := hd 0 _ _ _ rfl rfl rfl rfl rfl; exact of_pick x10 a0 (fun hc => by show _ = Value.bool x16; rw [q17, hc]; exact rfl) (fun hc => by have a2 : R' 30 = .bool x14 := hd 1 _ _ _ rfl rfl rfl rfl (g_and rfl (beq_of hc)); show _ = Value.bool x16; rw [q17, hc]; exact a2)) <|
          Obls.nil
      intro R w hw hs hF'
      replace h0 : R 0 = v0 := (hs 0 rfl).trans h0
      replace h5 : R 5 = v0 := (hs 5 rfl).trans h5
      replace h6 : R 6 = .int .i64 (p0.length : Int) := (hs 6 rfl).trans h6
      replace h7 : R 7 = .int .i64 y4 := (hs 7 rfl).trans h7
      have h31 : R 31 = .bool x16 := hF' 19 _ _ rfl rfl rfl
      replace f_v0 := f_v0.fr hw
      replace hA := hA.fr hw.size
      replace hF := hF.trans hw
      clear hs hF' hw
      refine seqR_nil ?_
      refine HT.cond x16 h31 (fun c18 => ?_) (fun c18 => ?_)
      · have hr := cnd_t c18 hr
        refine HT.seq ?_
        refine HT.text (l := ⟨_, true, .raw (.bool false)⟩ :: []) (tl := []) (by kernel_rfl) (by kernel_rfl) (by kernel_rfl) ?_ ?_
        · exact
            Obls.cons (Obl.plain rfl rfl fun R' w' hw hs hd => by exact of_assign rfl) <|
            Obls.nil
        intro R w hw hs hF'
        have h2 : R 2 = .bool false := hF' 0 _ _ rfl rfl rfl
        replace hA := hA.fr hw.size
        replace hF := hF.trans hw
        clear hs hF' hw
        refine seqR_nil ?_
        refine HT.ret ?_
        obtain rfl := Option.some.inj hr
        have hr := hr0
        replace hr : some _ = some _ := hr
        obtain rfl := Option.some.inj hr
        exact ⟨.inr rfl, [R 2], ⟨rfl, trivial⟩, h2, hF⟩
      · have hr := cnd_f c18 hr
        refine HT.skip ?_
        obtain ⟨e19, hr⟩ := ck_some hr
        refine HT.text (l := ⟨_, true, .raw (.int .i64 (y4 + (1 : Int)))⟩ :: ⟨_, true, .raw (.int .i64 (y4 + (1 : Int)))⟩ :: []) (tl := []) (by kernel_rfl) (by kernel_rfl) (by kernel_rfl) ?_ ?_
        · exact
            Obls.cons (Obl.plain rfl rfl fun R' w' hw hs hd => by have a0 : R' 7 = .int .i64 y4 := (hs 7 rfl).trans h7; exact of_add a0 rfl e19) <|
            Obls.cons (Obl.plain rfl rfl fun R' w' hw hs hd => by have a0 : R' 32 = .int .i64 (y4 + (1 : Int)) := hd 0 _ _ _ rfl rfl rfl rfl rfl; exact of_move a0) <|
            Obls.nil
        intro R w hw hs hF'
        replace h0 : R 0 = v0 := (hs 0 rfl).trans h0
        replace h5 : R 5 = v0 := (hs 5 rfl).trans h5
        replace h6 : R 6 = .int .i64 (p0.length : Int) := (hs 6 rfl).trans h6
        have h7 : R 7 = .int .i64 (y4 + (1 : Int)) := hF' 1 _ _ rfl rfl rfl
        replace f_v0 := f_v0.fr hw
        replace hA := hA.fr hw.size
        replace hF := hF.trans hw
        clear hs hF' hw
        refine seqR_nil ?_
        exact Exists.intro k (And.intro (Nat.lt_succ_self k) ⟨_, hr, hA, hF, h0, h5, h6, h7, f_v0⟩)
    · have hr := cnd_f c5 hr
      refine HT.exit ?_
      obtain rfl := Option.some.inj hr
      exact Exists.intro _ ⟨rfl, hA, hF⟩
  rintro R w ⟨s3, rfl, hA, hF⟩
  have hr := exM_go hr
  refine HT.seq ?_
  refine HT.text (l := ⟨_, true, .raw (.bool true)⟩ :: []) (tl := []) (by kernel_rfl) (by kernel_rfl) (by kernel_rfl) ?_ ?_
  · exact
      Obls.cons (Obl.plain rfl rfl fun R' w' hw hs hd => by exact of_assign rfl) <|
      Obls.nil
  intro R w hw hs hF'
  have h2 : R 2 = .bool true := hF' 0 _ _ rfl rfl rfl
  replace hA := hA.fr hw.size
  replace hF := hF.trans hw
  clear hs hF' hw
  refine seqR_nil ?_
  refine HT.ret ?_
  obtain rfl := Option.some.inj hr
  exact ⟨.inr rfl, [R 2], ⟨rfl, trivial⟩, h2, hF⟩
def M_impl_IsValidSetIndex_L0 (fu : Nat) (p0 : T_impl_SetIndex) : Nat → Int → Option (Ex Bool Unit)
  | 0, _ => none
  | k + 1, y15 =>
    bif (decide (y15 < (p0.2.2.length : Int))) then (
      ck (inR y15 p0.2.2.length) <|
      cl true (M_impl_isSetID fu ((gtD p0.2.2 y15).1)) fun x21 =>
      cl (true && ((!x21) == false)) (M_impl_IsTokenSet fu ((gtD p0.2.2 y15).2)) fun x23 =>
      bd ((!x21) || (!x23)) fun x25 =>
      ck (!((true && (x25 == false)) && ((decide ((0 : Int) < y15)) == true)) || i64B (y15 - (1 : Int))) <|
      ck (!((true && (x25 == false)) && ((decide ((0 : Int) < y15)) == true)) || inR (y15 - (1 : Int)) p0.2.2.length) <|
      bd ((decide ((0 : Int) < y15)) && (decide (((gtD p0.2.2 y15).1) ≤ ((gtD p0.2.2 (y15 - (1 : Int))).1)))) fun x29 =>
      bd (x25 || x29) fun x31 =>
      bif x31 then (
        some (Ex.ret false)
      ) else (
        ck (i64B (y15 + (1 : Int))) <|
        M_impl_IsValidSetIndex_L0 fu p0 k (y15 + (1 : Int))
      )
    ) else (
      some (Ex.go ())
    )
def M_impl_IsValidSetIndex (fu : Nat) (p0 : T_impl_SetIndex) : Option Bool :=
  cl true (M_impl_IsTokenTable fu p0.2.1) fun x2 =>
  cl (true && ((!x2) == false)) (M_impl_isThreshold fu p0.1) fun x4 =>
  bd ((!x2) || (!x4)) fun x6 =>
  bd (x6 || (decide ((12 : Int) < (p0.2.2.length : Int)))) fun x8 =>
  bif x8 then (
    some false
  ) else (
    cl true (M_impl_IsValidSetIndex_L0 fu p0 fu (0 : Int)) fun rl12 =>
    exM rl12 (fun r => some r) fun s14 =>
    some true
  )
set_option maxRecDepth 100000 in
set_option maxHeartbeats 4000000 in
theorem M_impl_IsValidSetIndex_ok {fu : Nat} {A0 : Av} {p0 : T_impl_SetIndex} {r : Bool} (hr : M_impl_IsValidSetIndex fu p0 = some r) {w : World} {v0 : Value} (hA : AvOK A0 w) (h0 : Rep E_impl_SetIndex A0 w v0 p0) :
    Calls Try.prog 36 #[v0] w fun e w' => ∃ v, e = .returned v ∧ (v = .bool r ∧ Fr w w') := by
  unfold M_impl_IsValidSetIndex at hr
  obtain ⟨w0, hw0⟩ : ∃ w0, w0 = w := ⟨_, rfl⟩
  have hF : Fr w0 w := hw0 ▸ Fr.refl _
  have hA0 : ∀ b o, A0 b o → b < w0.heap.size := fun b o h => hw0 ▸ hA b o h
  have hA00 : AvOK A0 w0 := hA0
  rw [show Fr w = Fr w0 from hw0 ▸ rfl]
  clear hw0
  obtain ⟨A, hAe⟩ : ∃ A, A = A0 := ⟨_, rfl⟩
  have hAA : ∀ b o, A0 b o → A b o := fun b o h => hAe ▸ h
  replace hA : AvOK A w := hAe ▸ hA
  have hO : IniOK [] A w := IniOK.nil
  refine calls_of_HT2 [.tmp 2] Try.func36 Try.ntmps36 (by decide) rfl rfl (Nat.le_of_ble_eq_true rfl) ?_
  intro R hR
  have f_v0 : Rep E_impl_SetIndex A w v0 p0 := hAe ▸ h0
  replace h0 : R 0 = v0 := hR 0 _ rfl
  clear hR hAe
  refine HT.seq ?_
  refine HT.textR [] (⟨_, true, [], some (.box w0.heap.size 49 E_impl_SetIndex p0), true, fun A => .any⟩ :: ⟨_, true, [], none, true, fun A => .raw (.bool false)⟩ :: []) (by kernel_rfl) (by kernel_rfl) (Wf.mk' (by kernel_rfl) (UAll.cons ust_any (UAll.cons ust_raw (UAll.nil))) (by kernel_rfl) (by kernel_rfl)) hO hA ?_ ?_
  · exact
      OblsR.cons (OblR.made _ rfl rfl rfl rfl fun A' R' w' ho hd => by have a0 : R' 0 = v0 := (ho.old 0 rfl).trans h0; have ra0 := (f_v0.stp ho.stp).eq a0; exact made_box ra0 (Nat.le_trans hF.size ho.ch.size)) <|
      OblsR.cons (OblR.plain rfl rfl rfl rfl fun A' R' w' ho hd => by exact of_assign rfl) <|
      OblsR.nil
  intro done ρ σ A R w hdn hI
  obtain ⟨b1_0, e_b1_0⟩ := hI.boxv hdn 0 rfl rfl
  have h1 : R 1 = (.pointer (some ⟨b1_0, 0, none⟩)) := (hI.opvR hdn 0 0 rfl rfl rfl rfl rfl).symm.trans e_b1_0
  replace hAA := hI.low' hAA hA0 (hO.ge (trivial))
  replace hF : Fr w0 w := hF.tr hI.ch (hO.ge (trivial))
  replace hO : IniOK [ob (.pointer (some ⟨b1_0, 0, none⟩)) (.box w0.heap.size 49 E_impl_SetIndex p0)] A w := hI.left hdn [(0, ob (.pointer (some ⟨b1_0, 0, none⟩)) (.box w0.heap.size 49 E_impl_SetIndex p0))] ⟨rfl, rfl, e_b1_0, rfl, rfl, trivial⟩
  replace hA := hI.avok
  clear hI
  refine HT.seq ?_
  refine HT.seq ?_
  obtain ⟨x2, q3, hr⟩ := cl_some hr
  obtain ⟨x4, q5, hr⟩ := cl_some hr
  obtain ⟨x6, q7, hr⟩ := bd_some hr
  obtain ⟨x8, q9, hr⟩ := bd_some hr
  refine HT.text (l := ⟨_, true, .raw (.pointer (some ⟨b1_0, 1, none⟩))⟩ :: ⟨_, true, .rep (eSl E_impl_TokenCount) A p0.2.1⟩ :: ⟨_, true, .raw (.bool x2)⟩ :: ⟨_, true, .raw (.bool (!x2))⟩ :: ⟨_, true, .raw (.bool (!x2))⟩ :: ⟨_, (true && ((!x2) == false)), .raw (.pointer (some ⟨b1_0, 0, none⟩))⟩ :: ⟨_, (true && ((!x2) == false)), .raw (.int .i64 p0.1)⟩ :: ⟨_, (true && ((!x2) == false)), .raw (.bool x4)⟩ :: ⟨_, (true && ((!x2) == false)), .raw (.bool (!x4))⟩ :: ⟨_, true, .raw (.bool x6)⟩ :: ⟨_, true, .raw (.bool x6)⟩ :: ⟨_, (true && (x6 == false)), .raw (.pointer (some ⟨b1_0, 2, none⟩))⟩ :: ⟨_, (true && (x6 == false)), .rep (eSl E_impl_IndexedSet) A p0.2.2⟩ :: ⟨_, (true && (x6 == false)), .raw (.int .i64 (p0.2.2.length : Int))⟩ :: ⟨_, (true && (x6 == false)), .raw (.bool (decide ((12 : Int) < (p0.2.2.length : Int))))⟩ :: ⟨_, true, .raw (.bool x8)⟩ :: []) (tl := []) (by kernel_rfl) (by kernel_rfl) (by kernel_rfl) ?_ ?_
  · exact
      Obls.cons (Obl.plain rfl rfl fun R' w' hw hs hd => by have a0 : R' 1 = (.pointer (some ⟨b1_0, 0, none⟩)) := (hs 1 rfl).trans h1; exact of_fieldAddr_raw a0 ff_49_1 Try.sizeOf27 (by decide) rfl) <|
      Obls.cons (Obl.plain rfl rfl fun R' w' hw hs hd => by have a0 : R' 5 = (.pointer (some ⟨b1_0, 1, none⟩)) := hd 0 _ _ _ rfl rfl rfl rfl rfl; exact (of_load_box ((hO.fr hw).ok 0 _ rfl).1 a0 fl_impl_SetIndex_1 rfl Try.isAgg27 Try.sizeOf27)) <|
      Obls.cons (Obl.plain rfl rfl fun R' w' hw hs hd => by have a0 : Rep (eSl E_impl_TokenCount) A w' (R' 6) p0.2.1 := hd 0 _ _ _ rfl rfl rfl rfl rfl; exact of_call Try.call82 (M_impl_IsTokenTable_ok (q3 rfl) (hA.fr hw.size) a0)) <|
      Obls.cons (Obl.plain rfl rfl fun R' w' hw hs hd => by have a0 : R' 7 = .bool x2 := hd 0 _ _ _ rfl rfl rfl rfl rfl; exact of_not a0) <|
      Obls.cons (Obl.plain rfl rfl fun R' w' hw hs hd => by have a0 : R' 8 = .bool (!x2) := hd 0 _ _ _ rfl rfl rfl rfl rfl; exact of_move a0) <|
      Obls.cons (Obl.grd 4 false _ _ _ rfl rfl rfl rfl rfl (by kernel_rfl) fun hg R' w' hw hs hd => by have a0 : R' 1 = (.pointer (some ⟨b1_0, 0, none⟩)) := (hs 1 rfl).trans h1; exact of_fieldAddr_raw a0 ff_49_0 Try.sizeOf3 (by decide) rfl) <|
      Obls.cons (Obl.grd 4 false _ _ _ rfl rfl rfl rfl rfl (by kernel_rfl) fun hg R' w' hw hs hd => by have a0 : R' 10 = (.pointer (some ⟨b1_0, 0, none⟩)) := hd 0 _ _ _ rfl rfl rfl rfl hg; exact OpF.int (of_load_box ((hO.fr hw).ok 0 _ rfl).1 a0 fl_impl_SetIndex_0 rfl Try.isAgg3 Try.sizeOf3)) <|
      Obls.cons (Obl.grd 4 false _ _ _ rfl rfl rfl rfl rfl (by kernel_rfl) fun hg R' w' hw hs hd => by have a0 : R' 11 = .int .i64 p0.1 := hd 0 _ _ _ rfl rfl rfl rfl hg; exact of_call Try.call83 (M_impl_isThreshold_ok (q5 hg) (hA.fr hw.size) a0)) <|
      Obls.cons (Obl.grd 4 false _ _ _ rfl rfl rfl rfl rfl (by kernel_rfl) fun hg R' w' hw hs hd => by have a0 : R' 12 = .bool x4 := hd 0 _ _ _ rfl rfl rfl rfl hg; exact of_not a0) <|
      Obls.cons (Obl.plain rfl rfl fun R' w' hw hs hd => by have a0 : R' 9 = .bool (!x2) := hd 0 _ _ _ rfl rfl rfl rfl rfl; exact of_pick (!x2) a0 (fun hc => by show _ = Value.bool x6; rw [q7, hc]; exact rfl) (fun hc => by have a2 : R' 13 = .bool (!x4) := hd 1 _ _ _ rfl rfl rfl rfl (g_and rfl (beq_of hc)); show _ = Value.bool x6; rw [q7, hc]; exact a2)) <|
      Obls.cons (Obl.plain rfl rfl fun R' w' hw hs hd => by have a0 : R' 14 = .bool x6 := hd 0 _ _ _ rfl rfl rfl rfl rfl; exact of_move a0) <|
      Obls.cons (Obl.grd 10 false _ _ _ rfl rfl rfl rfl rfl (by kernel_rfl) fun hg R' w' hw hs hd => by have a0 : R' 1 = (.pointer (some ⟨b1_0, 0, none⟩)) := (hs 1 rfl).trans h1; exact of_fieldAddr_raw a0 ff_49_2 Try.sizeOf47 (by decide) rfl) <|
      Obls.cons (Obl.grd 10 false _ _ _ rfl rfl rfl rfl rfl (by kernel_rfl) fun hg R' w' hw hs hd => by have a0 : R' 16 = (.pointer (some ⟨b1_0, 2, none⟩)) := hd 0 _ _ _ rfl rfl rfl rfl hg; exact (of_load_box ((hO.fr hw).ok 0 _ rfl).1 a0 fl_impl_SetIndex_2 rfl Try.isAgg47 Try.sizeOf47)) <|
      Obls.cons (Obl.grd 10 false _ _ _ rfl rfl rfl rfl rfl (by kernel_rfl) fun hg R' w' hw hs hd => by have a0 : Rep (eSl E_impl_IndexedSet) A w' (R' 17) p0.2.2 := hd 0 _ _ _ rfl rfl rfl rfl hg; exact of_len_sl (aT := #[]) a0 Try.underlying47) <|
      Obls.cons (Obl.grd 10 false _ _ _ rfl rfl rfl rfl rfl (by kernel_rfl) fun hg R' w' hw hs hd => by have a0 : R' 18 = .int .i64 (p0.2.2.length : Int) := hd 0 _ _ _ rfl rfl rfl rfl hg; exact of_gtr a0 rfl) <|
      Obls.cons (Obl.plain rfl rfl fun R' w' hw hs hd => by have a0 : R' 15 = .bool x6 := hd 0 _ _ _ rfl rfl rfl rfl rfl; exact of_pick x6 a0 (fun hc => by show _ = Value.bool x8; rw [q9, hc]; exact rfl) (fun hc => by have a2 : R' 19 = .bool (decide ((12 : Int) < (p0.2.2.length : Int))) := hd 1 _ _ _ rfl rfl rfl rfl (g_and rfl (beq_of hc)); show _ = Value.bool x8; rw [q9, hc]; exact a2)) <|
      Obls.nil
  intro R w hw hs hF'
  replace h1 : R 1 = (.pointer (some ⟨b1_0, 0, none⟩)) := (hs 1 rfl).trans h1
  have h20 : R 20 = .bool x8 := hF' 15 _ _ rfl rfl rfl
  replace hO := hO.fr hw
  replace hA := hA.fr hw.size
  replace hF := hF.trans hw
  clear hs hF' hw
  refine seqR_nil ?_
  refine HT.cond x8 h20 (fun c10 => ?_) (fun c10 => ?_)
  · have hr := cnd_t c10 hr
    refine HT.seq ?_
    refine HT.text (l := ⟨_, true, .raw (.bool false)⟩ :: []) (tl := []) (by kernel_rfl) (by kernel_rfl) (by kernel_rfl) ?_ ?_
    · exact
        Obls.cons (Obl.plain rfl rfl fun R' w' hw hs hd => by exact of_assign rfl) <|
        Obls.nil
    intro R w hw hs hF'
    have h2 : R 2 = .bool false := hF' 0 _ _ rfl rfl rfl
    replace hO := hO.fr hw
    replace hO : IniOK [] A w := hO.sub [] trivial
    replace hA := hA.fr hw.size
    replace hF := hF.trans hw
    clear hs hF' hw
    refine seqR_nil ?_
    refine HT.ret ?_
    obtain rfl := Option.some.inj hr
    exact ⟨.inr rfl, [R 2], ⟨rfl, trivial⟩, h2, hF⟩
  · have hr := cnd_f c10 hr
    refine HT.skip ?_
    refine HT.seq ?_
    refine HT.seq ?_
    refine HT.text (l := ⟨_, true, .raw (.pointer (some ⟨b1_0, 2, none⟩))⟩ :: ⟨_, true, .rep (eSl E_impl_IndexedSet) A p0.2.2⟩ :: ⟨_, true, .raw (.int .i64 (p0.2.2.length : Int))⟩ :: ⟨_, true, .raw (.int .i64 (0 : Int))⟩ :: []) (tl := []) (by kernel_rfl) (by kernel_rfl) (by kernel_rfl) ?_ ?_
    · exact
        Obls.cons (Obl.plain rfl rfl fun R' w' hw hs hd => by have a0 : R' 1 = (.pointer (some ⟨b1_0, 0, none⟩)) := (hs 1 rfl).trans h1; exact of_fieldAddr_raw a0 ff_49_2 Try.sizeOf47 (by decide) rfl) <|
        Obls.cons (Obl.plain rfl rfl fun R' w' hw hs hd => by have a0 : R' 21 = (.pointer (some ⟨b1_0, 2, none⟩)) := hd 0 _ _ _ rfl rfl rfl rfl rfl; exact (of_load_box ((hO.fr hw).ok 0 _ rfl).1 a0 fl_impl_SetIndex_2 rfl Try.isAgg47 Try.sizeOf47)) <|
        Obls.cons (Obl.plain rfl rfl fun R' w' hw hs hd => by have a0 : Rep (eSl E_impl_IndexedSet) A w' (R' 22) p0.2.2 := hd 0 _ _ _ rfl rfl rfl rfl rfl; exact of_len_sl (aT := #[]) a0 Try.underlying47) <|
        Obls.cons (Obl.plain rfl rfl fun R' w' hw hs hd => by exact of_move rfl) <|
        Obls.nil
    intro R w hw hs hF'
    replace h1 : R 1 = (.pointer (some ⟨b1_0, 0, none⟩)) := (hs 1 rfl).trans h1
    obtain ⟨u11, h22, f_u11⟩ : ∃ u, R 22 = u ∧ Rep (eSl E_impl_IndexedSet) A w u p0.2.2 := ⟨_, rfl, hF' 1 _ _ rfl rfl rfl⟩
    have h23 : R 23 = .int .i64 (p0.2.2.length : Int) := hF' 2 _ _ rfl rfl rfl
    have h24 : R 24 = .int .i64 (0 : Int) := hF' 3 _ _ rfl rfl rfl
    replace hO := hO.fr hw
    replace hA := hA.fr hw.size
    replace hF := hF.trans hw
    clear hs hF' hw
    refine seqR_nil ?_
    obtain ⟨rl12, q13, hr⟩ := cl_some hr
    replace q13 := q13 rfl
    refine HT.cut0 (fun R w => ∃ A : Av, ∃ (s14 : Unit), rl12 = Ex.go s14 ∧ AvOK A w ∧ Fr w0 w ∧ (∀ b o, A0 b o → A b o) ∧ IniOK [] A w) ?_ ?_
    · refine HT.block ?_
      refine HT.loop (fun k R w => ∃ A : Av, ∃ (y15 : Int), M_impl_IsValidSetIndex_L0 fu p0 k y15 = some rl12 ∧ AvOK A w ∧ Fr w0 w ∧ (∀ b o, A0 b o → A b o) ∧ IniOK [ob (.pointer (some ⟨b1_0, 0, none⟩)) (.box w0.heap.size 49 E_impl_SetIndex p0)] A w ∧ R 1 = (.pointer (some ⟨b1_0, 0, none⟩)) ∧ R 22 = u11 ∧ R 23 = .int .i64 (p0.2.2.length : Int) ∧ R 24 = .int .i64 y15 ∧ Rep (eSl E_impl_IndexedSet) A w u11 p0.2.2) fu ⟨_, _, q13, hA, hF, hAA, hO, h1, h22, h23, h24, f_u11⟩ ?_
      have hr0 := hr; clear hr q13
      rintro k R w ⟨A, y15, hr, hA, hF, hAA, hO, h1, h22, h23, h24, f_u11⟩
      rcases k with _ | k
      · cases (show none = some _ from hr)
      rw [M_impl_IsValidSetIndex_L0] at hr
      refine HT.seq ?_
      refine HT.text (l := ⟨_, true, .raw (.bool (decide (y15 < (p0.2.2.length : Int))))⟩ :: []) (tl := []) (by kernel_rfl) (by kernel_rfl) (by kernel_rfl) ?_ ?_
      · exact
          Obls.cons (Obl.plain rfl rfl fun R' w' hw hs hd => by have a0 : R' 24 = .int .i64 y15 := (hs 24 rfl).trans h24; have a1 : R' 23 = .int .i64 (p0.2.2.length : Int) := (hs 23 rfl).trans h23; exact of_lss a0 a1) <|
          Obls.nil
      intro R w hw hs hF'
      replace h1 : R 1 = (.pointer (some ⟨b1_0, 0, none⟩)) := (hs 1 rfl).trans h1
      replace h22 : R 22 = u11 := (hs 22 rfl).trans h22
      replace h23 : R 23 = .int .i64 (p0.2.2.length : Int) := (hs 23 rfl).trans h23
      replace h24 : R 24 = .int .i64 y15 := (hs 24 rfl).trans h24
      have h25 : R 25 = .bool (decide (y15 < (p0.2.2.length : Int))) := hF' 0 _ _ rfl rfl rfl
      replace f_u11 := f_u11.fr hw
      replace hO := hO.fr hw
      replace hA := hA.fr hw.size
      replace hF := hF.trans hw
      clear hs hF' hw
      refine seqR_nil ?_
      refine HT.seq ?_
      refine HT.cond (decide (y15 < (p0.2.2.length : Int))) h25 (fun c16 => ?_) (fun c16 => ?_)
      · have hr := cnd_t c16 hr
        refine HT.skip ?_
        refine HT.seq ?_
        refine HT.block ?_
        refine HT.seq ?_
        obtain ⟨e17, hr⟩ := ck_some hr
        refine HT.textR [ob (.pointer (some ⟨b1_0, 0, none⟩)) (.box w0.heap.size 49 E_impl_SetIndex p0)] (⟨_, true, [], none, true, fun A => .raw (.int .i64 y15)⟩ :: ⟨_, true, [], none, true, fun A => .qtr E_impl_IndexedSet A (gtD p0.2.2 y15)⟩ :: ⟨_, true, [], none, true, fun A => .rep E_impl_IndexedSet A (gtD p0.2.2 y15)⟩ :: ⟨_, true, [], some (.box w0.heap.size 91 E_impl_IndexedSet ((0 : Int), ([] : List (List UInt8)))), true, fun A => .any⟩ :: ⟨_, true, [], none, true, fun A => .raw (.int .i64 y15)⟩ :: ⟨_, true, [4], some (.box w0.heap.size 91 E_impl_IndexedSet (gtD p0.2.2 y15)), false, fun A => .any⟩ :: []) (by kernel_rfl) (by kernel_rfl) (Wf.mk' (by kernel_rfl) (UAll.cons ust_raw (UAll.cons ust_qtr (UAll.cons ust_rep (UAll.cons ust_any (UAll.cons ust_raw (UAll.cons ust_any (UAll.nil))))))) (by kernel_rfl) (by kernel_rfl)) hO hA ?_ ?_
        · exact
            OblsR.cons (OblR.plain rfl rfl rfl rfl fun A' R' w' ho hd => by have a0 : R' 24 = .int .i64 y15 := (ho.old 24 rfl).trans h24; exact of_move a0) <|
            OblsR.cons (OblR.plain rfl rfl rfl rfl fun A' R' w' ho hd => by have a0 : R' 22 = u11 := (ho.old 22 rfl).trans h22; have a1 : R' 24 = .int .i64 y15 := (ho.old 24 rfl).trans h24; have ra0 := (f_u11.stp ho.stp).eq a0; exact of_indexAddr ra0 a1 Try.underlying47 Try.sizeOf91 e17) <|
            OblsR.cons (OblR.plain rfl rfl rfl rfl fun A' R' w' ho hd => by have a0 : QRep E_impl_IndexedSet A' w' (R' 27) (gtD p0.2.2 y15) := hd 0 _ _ _ rfl rfl rfl rfl rfl; exact (of_load a0.ptr Try.isAgg91 Try.sizeOf91)) <|
            OblsR.cons (OblR.made _ rfl rfl rfl rfl fun A' R' w' ho hd => by exact made_alloc Try.zeroValue91 (fun A w => rep_pr rep1_int rep1_nil) (Nat.le_trans hF.size ho.ch.size)) <|
            OblsR.cons (OblR.plain rfl rfl rfl rfl fun A' R' w' ho hd => by have a0 : R' 26 = .int .i64 y15 := hd 0 _ _ _ rfl rfl rfl rfl rfl; exact of_assign a0) <|
            OblsR.cons (OblR.took 4 _ _ rfl rfl rfl rfl rfl fun A' R' w' ho hd u hok hav hin hop hds => by have a1 : Rep E_impl_IndexedSet A' w' (R' 28) (gtD p0.2.2 y15) := hd 1 _ _ _ rfl rfl rfl rfl rfl; obtain ⟨b, hb, hB', hbx⟩ := hok; have hop' := hop _ _ rfl rfl rfl rfl; exact took_store a1 (hop'.symm.trans hb) hb ⟨b, hb, hB', hbx⟩ hav (FldS.id _) Try.sizeOf91 rfl) <|
            OblsR.nil
        intro done ρ σ A R w hdn hI
        replace h1 : R 1 = (.pointer (some ⟨b1_0, 0, none⟩)) := (hI.reg rfl).trans h1
        replace h22 : R 22 = u11 := (hI.reg rfl).trans h22
        replace h23 : R 23 = .int .i64 (p0.2.2.length : Int) := (hI.reg rfl).trans h23
        replace h24 : R 24 = .int .i64 y15 := (hI.reg rfl).trans h24
        have z18 := hI.inivR 0 rfl
        obtain ⟨b4_18, e_b4_18⟩ := hI.boxv hdn 6 rfl rfl
        have z20 := (hI.opnR hdn 6 5 rfl rfl rfl rfl rfl).symm.trans e_b4_18
        have h4 : R 4 = (.pointer (some ⟨b4_18, 0, none⟩)) := (hI.opvR hdn 4 3 rfl rfl rfl rfl rfl).symm.trans z20
        have h3 : R 3 = .int .i64 y15 := hI.fact hdn (i := 4) rfl rfl rfl
        replace f_u11 := f_u11.stp hI.stp
        replace hAA := hI.low' hAA hA0 (hO.ge (⟨rfl, trivial⟩))
        replace hF : Fr w0 w := hF.tr hI.ch (hO.ge (⟨rfl, trivial⟩))
        replace hO : IniOK [ob (.pointer (some ⟨b1_0, 0, none⟩)) (.box w0.heap.size 49 E_impl_SetIndex p0), ob (.pointer (some ⟨b4_18, 0, none⟩)) (.box w0.heap.size 91 E_impl_IndexedSet (gtD p0.2.2 y15))] A w := hI.left hdn [(0, ob (.pointer (some ⟨b1_0, 0, none⟩)) (.box w0.heap.size 49 E_impl_SetIndex p0)), (6, ob (.pointer (some ⟨b4_18, 0, none⟩)) (.box w0.heap.size 91 E_impl_IndexedSet (gtD p0.2.2 y15)))] ⟨rfl, rfl, z18, rfl, rfl, ⟨rfl, rfl, e_b4_18, rfl, rfl, trivial⟩⟩
        replace hA := hI.avok
        clear hI
        refine HT.seq ?_
        obtain ⟨x21, q22, hr⟩ := cl_some hr
        obtain ⟨x23, q24, hr⟩ := cl_some hr
        obtain ⟨x25, q26, hr⟩ := bd_some hr
        obtain ⟨e27, hr⟩ := ck_some hr
        obtain ⟨e28, hr⟩ := ck_some hr
        obtain ⟨x29, q30, hr⟩ := bd_some hr
        obtain ⟨x31, q32, hr⟩ := bd_some hr
        refine HT.draw (by kernel_rfl) (l := ⟨_, true, .raw (.pointer (some ⟨b4_18, 0, none⟩))⟩ :: ⟨_, true, .raw (.int .i64 ((gtD p0.2.2 y15).1))⟩ :: ⟨_, true, .raw (.bool x21)⟩ :: ⟨_, true, .raw (.bool (!x21))⟩ :: ⟨_, true, .raw (.bool (!x21))⟩ :: ⟨_, (true && ((!x21) == false)), .raw (.pointer (some ⟨b4_18, 1, none⟩))⟩ :: ⟨_, (true && ((!x21) == false)), .rep (eSl eStr) A ((gtD p0.2.2 y15).2)⟩ :: ⟨_, (true && ((!x21) == false)), .raw (.bool x23)⟩ :: ⟨_, (true && ((!x21) == false)), .raw (.bool (!x23))⟩ :: ⟨_, true, .raw (.bool x25)⟩ :: ⟨_, true, .raw (.bool x25)⟩ :: ⟨_, (true && (x25 == false)), .raw (.int .i64 y15)⟩ :: ⟨_, (true && (x25 == false)), .raw (.bool (decide ((0 : Int) < y15)))⟩ :: ⟨_, (true && (x25 == false)), .raw (.bool (decide ((0 : Int) < y15)))⟩ :: ⟨_, ((true && (x25 == false)) && ((decide ((0 : Int) < y15)) == true)), .raw (.pointer (some ⟨b1_0, 2, none⟩))⟩ :: ⟨_, ((true && (x25 == false)) && ((decide ((0 : Int) < y15)) == true)), .rep (eSl E_impl_IndexedSet) A p0.2.2⟩ :: ⟨_, ((true && (x25 == false)) && ((decide ((0 : Int) < y15)) == true)), .raw (.int .i64 y15)⟩ :: ⟨_, ((true && (x25 == false)) && ((decide ((0 : Int) < y15)) == true)), .raw (.int .i64 (y15 - (1 : Int)))⟩ :: ⟨_, ((true && (x25 == false)) && ((decide ((0 : Int) < y15)) == true)), .qtr E_impl_IndexedSet A (gtD p0.2.2 (y15 - (1 : Int)))⟩ :: ⟨_, ((true && (x25 == false)) && ((decide ((0 : Int) < y15)) == true)), .qtr (eInt .i64) A ((gtD p0.2.2 (y15 - (1 : Int))).1)⟩ :: ⟨_, ((true && (x25 == false)) && ((decide ((0 : Int) < y15)) == true)), .raw (.int .i64 ((gtD p0.2.2 (y15 - (1 : Int))).1))⟩ :: ⟨_, ((true && (x25 == false)) && ((decide ((0 : Int) < y15)) == true)), .raw (.pointer (some ⟨b4_18, 0, none⟩))⟩ :: ⟨_, ((true && (x25 == false)) && ((decide ((0 : Int) < y15)) == true)), .raw (.int .i64 ((gtD p0.2.2 y15).1))⟩ :: ⟨_, ((true && (x25 == false)) && ((decide ((0 : Int) < y15)) == true)), .raw (.bool (decide (((gtD p0.2.2 y15).1) ≤ ((gtD p0.2.2 (y15 - (1 : Int))).1))))⟩ :: ⟨_, (true && (x25 == false)), .raw (.bool x29)⟩ :: ⟨_, true, .raw (.bool x31)⟩ :: []) (tl := []) (by kernel_rfl) (by kernel_rfl) (by kernel_rfl) (by kernel_rfl) ?_ ?_
        · exact
            Obls.cons (Obl.plain rfl rfl fun R' w' hw hs hd => by have a0 : R' 4 = (.pointer (some ⟨b4_18, 0, none⟩)) := (hs 4 rfl).trans h4; exact of_fieldAddr_raw a0 ff_91_0 Try.sizeOf3 (by decide) rfl) <|
            Obls.cons (Obl.plain rfl rfl fun R' w' hw hs hd => by have a0 : R' 29 = (.pointer (some ⟨b4_18, 0, none⟩)) := hd 0 _ _ _ rfl rfl rfl rfl rfl; exact OpF.int (of_load_box ((hO.fr hw).ok 1 _ rfl).1 a0 fl_impl_IndexedSet_0 rfl Try.isAgg3 Try.sizeOf3)) <|
            Obls.cons (Obl.plain rfl rfl fun R' w' hw hs hd => by have a0 : R' 30 = .int .i64 ((gtD p0.2.2 y15).1) := hd 0 _ _ _ rfl rfl rfl rfl rfl; exact of_call Try.call84 (M_impl_isSetID_ok (q22 rfl) (hA.fr hw.size) a0)) <|
            Obls.cons (Obl.plain rfl rfl fun R' w' hw hs hd => by have a0 : R' 31 = .bool x21 := hd 0 _ _ _ rfl rfl rfl rfl rfl; exact of_not a0) <|
            Obls.cons (Obl.plain rfl rfl fun R' w' hw hs hd => by have a0 : R' 32 = .bool (!x21) := hd 0 _ _ _ rfl rfl rfl rfl rfl; exact of_move a0) <|
            Obls.cons (Obl.grd 4 false _ _ _ rfl rfl rfl rfl rfl (by kernel_rfl) fun hg R' w' hw hs hd => by have a0 : R' 4 = (.pointer (some ⟨b4_18, 0, none⟩)) := (hs 4 rfl).trans h4; exact of_fieldAddr_raw a0 ff_91_1 Try.sizeOf23 (by decide) rfl) <|
            Obls.cons (Obl.grd 4 false _ _ _ rfl rfl rfl rfl rfl (by kernel_rfl) fun hg R' w' hw hs hd => by have a0 : R' 34 = (.pointer (some ⟨b4_18, 1, none⟩)) := hd 0 _ _ _ rfl rfl rfl rfl hg; exact (of_load_box ((hO.fr hw).ok 1 _ rfl).1 a0 fl_impl_IndexedSet_1 rfl Try.isAgg23 Try.sizeOf23)) <|
            Obls.cons (Obl.grd 4 false _ _ _ rfl rfl rfl rfl rfl (by kernel_rfl) fun hg R' w' hw hs hd => by have a0 : Rep (eSl eStr) A w' (R' 35) ((gtD p0.2.2 y15).2) := hd 0 _ _ _ rfl rfl rfl rfl hg; exact of_call Try.call77 (M_impl_IsTokenSet_ok (q24 hg) (hA.fr hw.size) a0)) <|
            Obls.cons (Obl.grd 4 false _ _ _ rfl rfl rfl rfl rfl (by kernel_rfl) fun hg R' w' hw hs hd => by have a0 : R' 36 = .bool x23 := hd 0 _ _ _ rfl rfl rfl rfl hg; exact of_not a0) <|
            Obls.cons (Obl.plain rfl rfl fun R' w' hw hs hd => by have a0 : R' 33 = .bool (!x21) := hd 0 _ _ _ rfl rfl rfl rfl rfl; exact of_pick (!x21) a0 (fun hc => by show _ = Value.bool x25; rw [q26, hc]; exact rfl) (fun hc => by have a2 : R' 37 = .bool (!x23) := hd 1 _ _ _ rfl rfl rfl rfl (g_and rfl (beq_of hc)); show _ = Value.bool x25; rw [q26, hc]; exact a2)) <|
            Obls.cons (Obl.plain rfl rfl fun R' w' hw hs hd => by have a0 : R' 38 = .bool x25 := hd 0 _ _ _ rfl rfl rfl rfl rfl; exact of_move a0) <|
            Obls.cons (Obl.grd 10 false _ _ _ rfl rfl rfl rfl rfl (by kernel_rfl) fun hg R' w' hw hs hd => by have a0 : R' 3 = .int .i64 y15 := (hs 3 rfl).trans h3; exact of_move a0) <|
            Obls.cons (Obl.grd 10 false _ _ _ rfl rfl rfl rfl rfl (by kernel_rfl) fun hg R' w' hw hs hd => by have a0 : R' 40 = .int .i64 y15 := hd 0 _ _ _ rfl rfl rfl rfl hg; exact of_gtr a0 rfl) <|
            Obls.cons (Obl.grd 10 false _ _ _ rfl rfl rfl rfl rfl (by kernel_rfl) fun hg R' w' hw hs hd => by have a0 : R' 41 = .bool (decide ((0 : Int) < y15)) := hd 0 _ _ _ rfl rfl rfl rfl hg; exact of_move a0) <|
            Obls.cons (Obl.grd 13 true _ _ _ rfl rfl rfl rfl rfl (by kernel_rfl) fun hg R' w' hw hs hd => by have a0 : R' 1 = (.pointer (some ⟨b1_0, 0, none⟩)) := (hs 1 rfl).trans h1; exact of_fieldAddr_raw a0 ff_49_2 Try.sizeOf47 (by decide) rfl) <|
            Obls.cons (Obl.grd 13 true _ _ _ rfl rfl rfl rfl rfl (by kernel_rfl) fun hg R' w' hw hs hd => by have a0 : R' 43 = (.pointer (some ⟨b1_0, 2, none⟩)) := hd 0 _ _ _ rfl rfl rfl rfl hg; exact (of_load_box ((hO.fr hw).ok 0 _ rfl).1 a0 fl_impl_SetIndex_2 rfl Try.isAgg47 Try.sizeOf47)) <|
            Obls.cons (Obl.grd 13 true _ _ _ rfl rfl rfl rfl rfl (by kernel_rfl) fun hg R' w' hw hs hd => by have a0 : R' 3 = .int .i64 y15 := (hs 3 rfl).trans h3; exact of_move a0) <|
            Obls.cons (Obl.grd 13 true _ _ _ rfl rfl rfl rfl rfl (by kernel_rfl) fun hg R' w' hw hs hd => by have a0 : R' 45 = .int .i64 y15 := hd 0 _ _ _ rfl rfl rfl rfl hg; exact of_sub a0 rfl (gd e27 hg)) <|
            Obls.cons (Obl.grd 13 true _ _ _ rfl rfl rfl rfl rfl (by kernel_rfl) fun hg R' w' hw hs hd => by have a0 : Rep (eSl E_impl_IndexedSet) A w' (R' 44) p0.2.2 := hd 0 _ _ _ rfl rfl rfl rfl hg; have a1 : R' 46 = .int .i64 (y15 - (1 : Int)) := hd 1 _ _ _ rfl rfl rfl rfl hg; exact of_indexAddr a0 a1 Try.underlying47 Try.sizeOf91 (gd e28 hg)) <|
            Obls.cons (Obl.grd 13 true _ _ _ rfl rfl rfl rfl rfl (by kernel_rfl) fun hg R' w' hw hs hd => by have a0 : QRep E_impl_IndexedSet A w' (R' 47) (gtD p0.2.2 (y15 - (1 : Int))) := hd 0 _ _ _ rfl rfl rfl rfl hg; exact of_fieldAddr_q a0 ff_91_0 Try.sizeOf3 (by decide) fl_impl_IndexedSet_0 rfl) <|
            Obls.cons (Obl.grd 13 true _ _ _ rfl rfl rfl rfl rfl (by kernel_rfl) fun hg R' w' hw hs hd => by have a0 : QRep (eInt .i64) A w' (R' 48) ((gtD p0.2.2 (y15 - (1 : Int))).1) := hd 0 _ _ _ rfl rfl rfl rfl hg; exact OpF.int (of_load a0.ptr Try.isAgg3 Try.sizeOf3)) <|
            Obls.cons (Obl.grd 13 true _ _ _ rfl rfl rfl rfl rfl (by kernel_rfl) fun hg R' w' hw hs hd => by have a0 : R' 4 = (.pointer (some ⟨b4_18, 0, none⟩)) := (hs 4 rfl).trans h4; exact of_fieldAddr_raw a0 ff_91_0 Try.sizeOf3 (by decide) rfl) <|
            Obls.cons (Obl.grd 13 true _ _ _ rfl rfl rfl rfl rfl (by kernel_rfl) fun hg R' w' hw hs hd => by have a0 : R' 50 = (.pointer (some ⟨b4_18, 0, none⟩)) := hd 0 _ _ _ rfl rfl rfl rfl hg; exact OpF.int (of_load_box ((hO.fr hw).ok 1 _ rfl).1 a0 fl_impl_IndexedSet_0 rfl Try.isAgg3 Try.sizeOf3)) <|
            Obls.cons (Obl.grd 13 true _ _ _ rfl rfl rfl rfl rfl (by kernel_rfl) fun hg R' w' hw hs hd => by have a0 : R' 49 = .int .i64 ((gtD p0.2.2 (y15 - (1 : Int))).1) := hd 0 _ _ _ rfl rfl rfl rfl hg; have a1 : R' 51 = .int .i64 ((gtD p0.2.2 y15).1) := hd 1 _ _ _ rfl rfl rfl rfl hg; exact of_geq a0 a1) <|
            Obls.cons (Obl.grd 10 false _ _ _ rfl rfl rfl rfl rfl (by kernel_rfl) fun hg R' w' hw hs hd => by have a0 : R' 42 = .bool (decide ((0 : Int) < y15)) := hd 0 _ _ _ rfl rfl rfl rfl hg; exact of_pick (decide ((0 : Int) < y15)) a0 (fun hc => by have a1 : R' 52 = .bool (decide (((gtD p0.2.2 y15).1) ≤ ((gtD p0.2.2 (y15 - (1 : Int))).1))) := hd 1 _ _ _ rfl rfl rfl rfl (g_and hg (beq_of hc)); show _ = Value.bool x29; rw [q30, hc]; exact a1) (fun hc => by show _ = Value.bool x29; rw [q30, hc]; exact rfl)) <|
            Obls.cons (Obl.plain rfl rfl fun R' w' hw hs hd => by have a0 : R' 39 = .bool x25 := hd 0 _ _ _ rfl rfl rfl rfl rfl; exact of_pick x25 a0 (fun hc => by show _ = Value.bool x31; rw [q32, hc]; exact rfl) (fun hc => by have a2 : R' 53 = .bool x29 := hd 1 _ _ _ rfl rfl rfl rfl (g_and rfl (beq_of hc)); show _ = Value.bool x31; rw [q32, hc]; exact a2)) <|
            Obls.nil
        intro R w hw hs hF'
        replace h1 : R 1 = (.pointer (some ⟨b1_0, 0, none⟩)) := (hs 1 rfl).trans h1
        replace h22 : R 22 = u11 := (hs 22 rfl).trans h22
        replace h23 : R 23 = .int .i64 (p0.2.2.length : Int) := (hs 23 rfl).trans h23
        replace h24 : R 24 = .int .i64 y15 := (hs 24 rfl).trans h24
        have h54 : R 54 = .bool x31 := hF' 25 _ _ rfl rfl rfl
        replace f_u11 := f_u11.fr hw
        replace hO := hO.fr hw
        replace hO : IniOK [ob (.pointer (some ⟨b1_0, 0, none⟩)) (.box w0.heap.size 49 E_impl_SetIndex p0)] A w := hO.sub [(0, ob (.pointer (some ⟨b1_0, 0, none⟩)) (.box w0.heap.size 49 E_impl_SetIndex p0))] ⟨rfl, rfl, trivial⟩
        replace hA := hA.fr hw.size
        replace hF := hF.trans hw
        clear hs hF' hw
        refine seqR_nil ?_
        refine HT.cond x31 h54 (fun c33 => ?_) (fun c33 => ?_)
        · have hr := cnd_t c33 hr
          refine HT.seq ?_
          refine HT.text (l := ⟨_, true, .raw (.bool false)⟩ :: []) (tl := []) (by kernel_rfl) (by kernel_rfl) (by kernel_rfl) ?_ ?_
          · exact
              Obls.cons (Obl.plain rfl rfl fun R' w' hw hs hd => by exact of_assign rfl) <|
              Obls.nil
          intro R w hw hs hF'
          have h2 : R 2 = .bool false := hF' 0 _ _ rfl rfl rfl
          replace hO := hO.fr hw
          replace hO : IniOK [] A w := hO.sub [] trivial
          replace hA := hA.fr hw.size
          replace hF := hF.trans hw
          clear hs hF' hw
          refine seqR_nil ?_
          refine HT.ret ?_
          obtain rfl := Option.some.inj hr
          have hr := hr0
          replace hr : some _ = some _ := hr
          obtain rfl := Option.some.inj hr
          exact ⟨.inr rfl, [R 2], ⟨rfl, trivial⟩, h2, hF⟩
        · have hr := cnd_f c33 hr
          refine HT.skip ?_
          obtain ⟨e34, hr⟩ := ck_some hr
          refine HT.text (l := ⟨_, true, .raw (.int .i64 (y15 + (1 : Int)))⟩ :: ⟨_, true, .raw (.int .i64 (y15 + (1 : Int)))⟩ :: []) (tl := []) (by kernel_rfl) (by kernel_rfl) (by kernel_rfl) ?_ ?_
          · exact
              Obls.cons (Obl.plain rfl rfl fun R' w' hw hs hd => by have a0 : R' 24 = .int .i64 y15 := (hs 24 rfl).trans h24; exact of_add a0 rfl e34) <|
              Obls.cons (Obl.plain rfl rfl fun R' w' hw hs hd => by have a0 : R' 55 = .int .i64 (y15 + (1 : Int)) := hd 0 _ _ _ rfl rfl rfl rfl rfl; exact of_move a0) <|
              Obls.nil
          intro R w hw hs hF'
          replace h1 : R 1 = (.pointer (some ⟨b1_0, 0, none⟩)) := (hs 1 rfl).trans h1
          replace h22 : R 22 = u11 := (hs 22 rfl).trans h22
          replace h23 : R 23 = .int .i64 (p0.2.2.length : Int) := (hs 23 rfl).trans h23
          have h24 : R 24 = .int .i64 (y15 + (1 : Int)) := hF' 1 _ _ rfl rfl rfl
          replace f_u11 := f_u11.fr hw
          replace hO := hO.fr hw
          replace hA := hA.fr hw.size
          replace hF := hF.trans hw
          clear hs hF' hw
          refine seqR_nil ?_
          exact Exists.intro k (And.intro (Nat.lt_succ_self k) ⟨_, _, hr, hA, hF, hAA, hO, h1, h22, h23, h24, f_u11⟩)
      · have hr := cnd_f c16 hr
        refine HT.exit ?_
        obtain rfl := Option.some.inj hr
        replace hO : IniOK [] A w := hO.sub [] trivial
        exact Exists.intro _ ⟨_, rfl, hA, hF, hAA, hO⟩
    rintro R w ⟨A, s14, rfl, hA, hF, hAA, hO⟩
    have hr := exM_go hr
    refine HT.seq ?_
    refine HT.text (l := ⟨_, true, .raw (.bool true)⟩ :: []) (tl := []) (by kernel_rfl) (by kernel_rfl) (by kernel_rfl) ?_ ?_
    · exact
        Obls.cons (Obl.plain rfl rfl fun R' w' hw hs hd => by exact of_assign rfl) <|
        Obls.nil
    intro R w hw hs hF'
    have h2 : R 2 = .bool true := hF' 0 _ _ rfl rfl rfl
    replace hO := hO.fr hw
    replace hA := hA.fr hw.size
    replace hF := hF.trans hw
    clear hs hF' hw
    refine seqR_nil ?_
    refine HT.ret ?_
    obtain rfl := Option.some.inj hr
    exact ⟨.inr rfl, [R 2], ⟨rfl, trivial⟩, h2, hF⟩
def M_impl_areTokenSets (fu : Nat) (p0 : List (List UInt8)) (p1 : List (List UInt8)) : Option Bool :=
  cl true (M_impl_IsTokenSet fu p0) fun x1 =>
  cl (true && (x1 == true)) (M_impl_IsTokenSet fu p1) fun x3 =>
  bd (x1 && x3) fun x5 =>
  some x5
set_option maxRecDepth 100000 in
set_option maxHeartbeats 4000000 in
theorem M_impl_areTokenSets_ok {fu : Nat} {A : Av} {p0 : List (List UInt8)} {p1 : List (List UInt8)} {r : Bool} (hr : M_impl_areTokenSets fu p0 p1 = some r) {w : World} {v0 : Value} {v1 : Value} (hA : AvOK A w) (h0 : Rep (eSl eStr) A w v0 p0) (h1 : Rep (eSl eStr) A w v1 p1) :
    Calls Try.prog 123 #[v0, v1] w fun e w' => ∃ v, e = .returned v ∧ (v = .bool r ∧ Fr w w') := by
  unfold M_impl_areTokenSets at hr
  obtain ⟨w0, hw0⟩ : ∃ w0, w0 = w := ⟨_, rfl⟩
  have hF : Fr w0 w := hw0 ▸ Fr.refl _
  rw [show Fr w = Fr w0 from hw0 ▸ rfl]
  clear hw0
  refine calls_of_HT2 [.tmp 4] Try.func123 Try.ntmps123 (by decide) rfl rfl (Nat.le_of_ble_eq_true rfl) ?_
  intro R hR
  have f_v0 := h0
  replace h0 : R 0 = v0 := hR 0 _ rfl
  have f_v1 := h1
  replace h1 : R 1 = v1 := hR 1 _ rfl
  clear hR
  refine HT.seq ?_
  refine HT.text (l := ⟨_, true, .raw (.bool false)⟩ :: []) (tl := []) (by kernel_rfl) (by kernel_rfl) (by kernel_rfl) ?_ ?_
  · exact
      Obls.cons (Obl.plain rfl rfl fun R' w' hw hs hd => by exact of_assign rfl) <|
      Obls.nil
  intro R w hw hs hF'
  replace h0 : R 0 = v0 := (hs 0 rfl).trans h0
  replace h1 : R 1 = v1 := (hs 1 rfl).trans h1
  replace f_v0 := f_v0.fr hw
  replace f_v1 := f_v1.fr hw
  replace hA := hA.fr hw.size
  replace hF := hF.trans hw
  clear hs hF' hw
  refine seqR_nil ?_
  refine HT.seq ?_
  obtain ⟨x1, q2, hr⟩ := cl_some hr
  obtain ⟨x3, q4, hr⟩ := cl_some hr
  obtain ⟨x5, q6, hr⟩ := bd_some hr
  refine HT.text (l := ⟨_, true, .raw v0⟩ :: ⟨_, true, .raw (.bool x1)⟩ :: ⟨_, true, .raw (.bool x1)⟩ :: ⟨_, (true && (x1 == true)), .raw v1⟩ :: ⟨_, (true && (x1 == true)), .raw (.bool x3)⟩ :: ⟨_, true, .raw (.bool x5)⟩ :: ⟨_, true, .raw (.bool x5)⟩ :: []) (tl := []) (by kernel_rfl) (by kernel_rfl) (by kernel_rfl) ?_ ?_
  · exact
      Obls.cons (Obl.plain rfl rfl fun R' w' hw hs hd => by have a0 : R' 0 = v0 := (hs 0 rfl).trans h0; exact of_move a0) <|
      Obls.cons (Obl.plain rfl rfl fun R' w' hw hs hd => by have a0 : R' 5 = v0 := hd 0 _ _ _ rfl rfl rfl rfl rfl; have ra0 := (f_v0.fr hw).eq a0; exact of_call Try.call77 (M_impl_IsTokenSet_ok (q2 rfl) (hA.fr hw.size) ra0)) <|
      Obls.cons (Obl.plain rfl rfl fun R' w' hw hs hd => by have a0 : R' 6 = .bool x1 := hd 0 _ _ _ rfl rfl rfl rfl rfl; exact of_move a0) <|
      Obls.cons (Obl.grd 2 true _ _ _ rfl rfl rfl rfl rfl (by kernel_rfl) fun hg R' w' hw hs hd => by have a0 : R' 1 = v1 := (hs 1 rfl).trans h1; exact of_move a0) <|
      Obls.cons (Obl.grd 2 true _ _ _ rfl rfl rfl rfl rfl (by kernel_rfl) fun hg R' w' hw hs hd => by have a0 : R' 8 = v1 := hd 0 _ _ _ rfl rfl rfl rfl hg; have ra0 := (f_v1.fr hw).eq a0; exact of_call Try.call77 (M_impl_IsTokenSet_ok (q4 hg) (hA.fr hw.size) ra0)) <|
      Obls.cons (Obl.plain rfl rfl fun R' w' hw hs hd => by have a0 : R' 7 = .bool x1 := hd 0 _ _ _ rfl rfl rfl rfl rfl; exact of_pick x1 a0 (fun hc => by have a1 : R' 9 = .bool x3 := hd 1 _ _ _ rfl rfl rfl rfl (g_and rfl (beq_of hc)); show _ = Value.bool x5; rw [q6, hc]; exact a1) (fun hc => by show _ = Value.bool x5; rw [q6, hc]; exact rfl)) <|
      Obls.cons (Obl.plain rfl rfl fun R' w' hw hs hd => by have a0 : R' 10 = .bool x5 := hd 0 _ _ _ rfl rfl rfl rfl rfl; exact of_assign a0) <|
      Obls.nil
  intro R w hw hs hF'
  have h4 : R 4 = .bool x5 := hF' 6 _ _ rfl rfl rfl
  replace hA := hA.fr hw.size
  replace hF := hF.trans hw
  clear hs hF' hw
  refine seqR_nil ?_
  refine HT.ret ?_
  obtain rfl := Option.some.inj hr
  exact ⟨.inr rfl, [R 4], ⟨rfl, trivial⟩, h4, hF⟩
def M_impl_isSize (fu : Nat) (p0 : Int) : Option Bool :=
  cl true (M_impl_within fu p0 (0 : Int) (1000 : Int)) fun x1 =>
  some x1
set_option maxRecDepth 100000 in
set_option maxHeartbeats 4000000 in
theorem M_impl_isSize_ok {fu : Nat} {A : Av} {p0 : Int} {r : Bool} (hr : M_impl_isSize fu p0 = some r) {w : World} {v0 : Value} (hA : AvOK A w) (h0 : v0 = .int .i64 p0) :
    Calls Try.prog 124 #[v0] w fun e w' => ∃ v, e = .returned v ∧ (v = .bool r ∧ Fr w w') := by
  unfold M_impl_isSize at hr
  obtain ⟨w0, hw0⟩ : ∃ w0, w0 = w := ⟨_, rfl⟩
  have hF : Fr w0 w := hw0 ▸ Fr.refl _
  rw [show Fr w = Fr w0 from hw0 ▸ rfl]
  clear hw0
  refine calls_of_HT2 [.tmp 2] Try.func124 Try.ntmps124 (by decide) rfl rfl (Nat.le_of_ble_eq_true rfl) ?_
  intro R hR
  replace h0 : R 0 = .int .i64 p0 := (hR 0 _ rfl).trans h0
  clear hR
  refine HT.seq ?_
  refine HT.text (l := ⟨_, true, .raw (.bool false)⟩ :: []) (tl := []) (by kernel_rfl) (by kernel_rfl) (by kernel_rfl) ?_ ?_
  · exact
      Obls.cons (Obl.plain rfl rfl fun R' w' hw hs hd => by exact of_assign rfl) <|
      Obls.nil
  intro R w hw hs hF'
  replace h0 : R 0 = .int .i64 p0 := (hs 0 rfl).trans h0
  replace hA := hA.fr hw.size
  replace hF := hF.trans hw
  clear hs hF' hw
  refine seqR_nil ?_
  refine HT.seq ?_
  obtain ⟨x1, q2, hr⟩ := cl_some hr
  refine HT.text (l := ⟨_, true, .raw (.int .i64 p0)⟩ :: ⟨_, true, .raw (.bool x1)⟩ :: ⟨_, true, .raw (.bool x1)⟩ :: []) (tl := []) (by kernel_rfl) (by kernel_rfl) (by kernel_rfl) ?_ ?_
  · exact
      Obls.cons (Obl.plain rfl rfl fun R' w' hw hs hd => by have a0 : R' 0 = .int .i64 p0 := (hs 0 rfl).trans h0; exact of_move a0) <|
      Obls.cons (Obl.plain rfl rfl fun R' w' hw hs hd => by have a0 : R' 3 = .int .i64 p0 := hd 0 _ _ _ rfl rfl rfl rfl rfl; exact of_call Try.call114 (M_impl_within_ok (q2 rfl) (hA.fr hw.size) a0 rfl rfl)) <|
      Obls.cons (Obl.plain rfl rfl fun R' w' hw hs hd => by have a0 : R' 4 = .bool x1 := hd 0 _ _ _ rfl rfl rfl rfl rfl; exact of_assign a0) <|
      Obls.nil
  intro R w hw hs hF'
  have h2 : R 2 = .bool x1 := hF' 2 _ _ rfl rfl rfl
  replace hA := hA.fr hw.size
  replace hF := hF.trans hw
  clear hs hF' hw
  refine seqR_nil ?_
  refine HT.ret ?_
  obtain rfl := Option.some.inj hr
  exact ⟨.inr rfl, [R 2], ⟨rfl, trivial⟩, h2, hF⟩
def M_slices_Clone_string_string (fu : Nat) (p0 : List (List UInt8)) : Option (List (List UInt8)) :=
  ck (lenOK (([] : List (List UInt8)).length + p0.length)) <|
  some (([] : List (List UInt8)) ++ p0)
set_option maxRecDepth 100000 in
set_option maxHeartbeats 4000000 in
theorem M_slices_Clone_string_string_ok {fu : Nat} {A0 : Av} {p0 : List (List UInt8)} {r : List (List UInt8)} (hr : M_slices_Clone_string_string fu p0 = some r) {w : World} {v0 : Value} (hA : AvOK A0 w) (h0 : Rep (eSl eStr) A0 w v0 p0) :
    Calls Try.prog 61 #[v0] w fun e w' => ∃ v, e = .returned v ∧ ((Res.vec w.heap.size 9 eStr r).ok (addA A0 v) v w' ∧ Fr w w') := by
  unfold M_slices_Clone_string_string at hr
  obtain ⟨w0, hw0⟩ : ∃ w0, w0 = w := ⟨_, rfl⟩
  have hF : Fr w0 w := hw0 ▸ Fr.refl _
  have hA0 : ∀ b o, A0 b o → b < w0.heap.size := fun b o h => hw0 ▸ hA b o h
  have hA00 : AvOK A0 w0 := hA0
  rw [show w.heap.size = w0.heap.size from hw0 ▸ rfl]
  rw [show Fr w = Fr w0 from hw0 ▸ rfl]
  clear hw0
  obtain ⟨A, hAe⟩ : ∃ A, A = A0 := ⟨_, rfl⟩
  have hAA : ∀ b o, A0 b o → A b o := fun b o h => hAe ▸ h
  replace hA : AvOK A w := hAe ▸ hA
  have hO : IniOK [] A w := IniOK.nil
  refine calls_of_HT2 [.tmp 2] Try.func61 Try.ntmps61 (by decide) rfl rfl (Nat.le_of_ble_eq_true rfl) ?_
  intro R hR
  have f_v0 : Rep (eSl eStr) A w v0 p0 := hAe ▸ h0
  replace h0 : R 0 = v0 := hR 0 _ rfl
  clear hR hAe
  refine HT.seq ?_
  refine HT.text (l := ⟨_, true, .any⟩ :: []) (tl := []) (by kernel_rfl) (by kernel_rfl) (by kernel_rfl) ?_ ?_
  · exact
      Obls.cons (Obl.plain rfl rfl fun R' w' hw hs hd => by exact of_assign trivial) <|
      Obls.nil
  intro R w hw hs hF'
  replace h0 : R 0 = v0 := (hs 0 rfl).trans h0
  replace f_v0 := f_v0.fr hw
  replace hO := hO.fr hw
  replace hA := hA.fr hw.size
  replace hF := hF.trans hw
  clear hs hF' hw
  refine seqR_nil ?_
  refine HT.seq ?_
  refine HT.seq ?_
  refine HT.text (l := ⟨_, true, .raw v0⟩ :: ⟨_, true, .raw (.bool (isNilV v0))⟩ :: []) (tl := []) (by kernel_rfl) (by kernel_rfl) (by kernel_rfl) ?_ ?_
  · exact
      Obls.cons (Obl.plain rfl rfl fun R' w' hw hs hd => by have a0 : R' 0 = v0 := (hs 0 rfl).trans h0; exact of_move a0) <|
      Obls.cons (Obl.plain rfl rfl fun R' w' hw hs hd => by have a0 : R' 3 = v0 := hd 0 _ _ _ rfl rfl rfl rfl rfl; have ra0 := f_v0.fr hw; exact of_nil_eql a0 ra0 rfl Try.underlying23) <|
      Obls.nil
  intro R w hw hs hF'
  replace h0 : R 0 = v0 := (hs 0 rfl).trans h0
  have h4 : R 4 = .bool (isNilV v0) := hF' 1 _ _ rfl rfl rfl
  replace f_v0 := f_v0.fr hw
  replace hO := hO.fr hw
  replace hA := hA.fr hw.size
  replace hF := hF.trans hw
  clear hs hF' hw
  refine seqR_nil ?_
  refine HT.cond (isNilV v0) h4 (fun c1 => ?_) (fun c1 => ?_)
  · obtain rfl := nil_of_rep f_v0 c1
    refine HT.seq ?_
    refine HT.text (l := ⟨_, true, .raw (.slice none 0 0)⟩ :: []) (tl := []) (by kernel_rfl) (by kernel_rfl) (by kernel_rfl) ?_ ?_
    · exact
        Obls.cons (Obl.plain rfl rfl fun R' w' hw hs hd => by exact of_assign rfl) <|
        Obls.nil
    intro R w hw hs hF'
    obtain ⟨u2, n_u2⟩ : ∃ u, u = Value.slice none 0 0 := ⟨_, rfl⟩
    have h2 : R 2 = u2 := (hF' 0 _ _ rfl rfl rfl).trans n_u2.symm
    replace hO := hO.fr hw
    replace hA := hA.fr hw.size
    replace hF := hF.trans hw
    clear hs hF' hw
    refine seqR_nil ?_
    replace hO := hO.nilcons (u := u2) n_u2 w0.heap.size 9 eStr
    refine HT.ret ?_
    replace hr : some ([] : List (List UInt8)) = some r := hr
    obtain rfl := Option.some.inj hr
    exact ⟨.inr rfl, [R 2], ⟨rfl, trivial⟩, (own_post (hO.ok 0 _ rfl) hAA h2), hF⟩
  · skip
    refine HT.skip ?_
    refine HT.seq ?_
    obtain ⟨e3, hr⟩ := ck_some hr
    refine HT.textR [] (⟨_, true, [], some (.vec w0.heap.size 9 eStr ([] : List (List UInt8))), true, fun A => .any⟩ :: ⟨_, true, [], none, true, fun A => .raw v0⟩ :: ⟨_, true, [0], some (.vec w0.heap.size 9 eStr (([] : List (List UInt8)) ++ p0)), true, fun A => .any⟩ :: ⟨_, true, [2], some (.vec w0.heap.size 9 eStr (([] : List (List UInt8)) ++ p0)), true, fun A => .any⟩ :: []) (by kernel_rfl) (by kernel_rfl) (Wf.mk' (by kernel_rfl) (UAll.cons ust_any (UAll.cons ust_raw (UAll.cons ust_any (UAll.cons ust_any (UAll.nil))))) (by kernel_rfl) (by kernel_rfl)) hO hA ?_ ?_
    · exact
        OblsR.cons (OblR.made _ rfl rfl rfl rfl fun A' R' w' ho hd => by exact made_build [] (E := eStr) trivial Try.underlying23 Try.sizeOf9 Try.zeroValue9 rfl rfl rfl (Nat.le_trans hF.size ho.ch.size)) <|
        OblsR.cons (OblR.plain rfl rfl rfl rfl fun A' R' w' ho hd => by have a0 : R' 0 = v0 := (ho.old 0 rfl).trans h0; exact of_move a0) <|
        OblsR.cons (OblR.took 0 _ _ rfl rfl rfl rfl rfl fun A' R' w' ho hd u hok hav hin hop hds => by have a1 : R' 6 = v0 := hd 1 _ _ _ rfl rfl rfl rfl rfl; have ra1 := (f_v0.stp ho.stp).eq a1; exact took_append (hop _ _ rfl rfl rfl rfl).symm hok hav (Nat.le_trans hF.size ho.ch.size) ra1 Try.underlying23 el_9 e3) <|
        OblsR.cons (OblR.took 2 _ _ rfl rfl rfl rfl rfl fun A' R' w' ho hd u hok hav hin hop hds => by exact took_assign (hop _ _ rfl rfl rfl rfl).symm hok hav) <|
        OblsR.nil
    intro done ρ σ A R w hdn hI
    obtain ⟨u4, e_u4⟩ : ∃ u, ρ 3 = u := ⟨_, rfl⟩
    have h2 : R 2 = u4 := (hI.opvR hdn 3 3 rfl rfl rfl rfl rfl).symm.trans e_u4
    replace hAA := hI.low' hAA hA0 (hO.ge (trivial))
    replace hF : Fr w0 w := hF.tr hI.ch (hO.ge (trivial))
    replace hO : IniOK [ob u4 (.vec w0.heap.size 9 eStr (([] : List (List UInt8)) ++ p0))] A w := hI.left hdn [(3, ob u4 (.vec w0.heap.size 9 eStr (([] : List (List UInt8)) ++ p0)))] ⟨rfl, rfl, e_u4, rfl, rfl, trivial⟩
    replace hA := hI.avok
    clear hI
    refine HT.ret ?_
    obtain rfl := Option.some.inj hr
    exact ⟨.inr rfl, [R 2], ⟨rfl, trivial⟩, (own_post (hO.ok 0 _ rfl) hAA h2), hF⟩
theorem M_slices_Clone_string_string_okR {fu : Nat} {A0 : Av} {p0 : List (List UInt8)} {r : List (List UInt8)} (hr : M_slices_Clone_string_string fu p0 = some r) {w : World} {v0 : Value} (hA : AvOK A0 w) (h0 : Rep (eSl eStr) A0 w v0 p0) :
    Calls Try.prog 61 #[v0] w fun e w' => ∃ v, e = .returned v ∧ (Rep (eSl eStr) A0 w' v r ∧ Fr w w') := by
  refine Calls.mono (M_slices_Clone_string_string_ok hr hA h0) ?_
  rintro e w' ⟨v, he, hv, hf⟩
  exact ⟨v, he, vec_rep hv (fun b o h => .inl h) hA, hf⟩
def M_impl_CommonGrams_L0 (fu : Nat) : Nat → (List (List UInt8)) → (List (List UInt8)) → Int → Option Int
  | 0, _, _, _ => none
  | k + 1, y20, y21, y22 =>
    bd ((decide ((0 : Int) < (y20.length : Int))) && (decide ((0 : Int) < (y21.length : Int)))) fun x23 =>
    bif x23 then (
      ck (inR (0 : Int) y20.length) <|
      ck (inR (0 : Int) y21.length) <|
      bif (bLt (gtD y20 (0 : Int)) (gtD y21 (0 : Int))) then (
        ck (subR (1 : Int) (y20.length : Int) y20.length) <|
        M_impl_CommonGrams_L0 fu k (subL y20 (1 : Int) (y20.length : Int)) y21 y22
      ) else (
        ck (inR (0 : Int) y21.length) <|
        ck (inR (0 : Int) y20.length) <|
        bif (bLt (gtD y21 (0 : Int)) (gtD y20 (0 : Int))) then (
          ck (subR (1 : Int) (y21.length : Int) y21.length) <|
          M_impl_CommonGrams_L0 fu k y20 (subL y21 (1 : Int) (y21.length : Int)) y22
        ) else (
          ck (subR (1 : Int) (y20.length : Int) y20.length) <|
          ck (subR (1 : Int) (y21.length : Int) y21.length) <|
          ck (i64B (y22 + (1 : Int))) <|
          M_impl_CommonGrams_L0 fu k (subL y20 (1 : Int) (y20.length : Int)) (subL y21 (1 : Int) (y21.length : Int)) (y22 + (1 : Int))
        )
      )
    ) else (
      some y22
    )
def M_impl_CommonGrams (fu : Nat) (p0 : List (List UInt8)) (p1 : List (List UInt8)) : Option Int :=
  cl true (M_slices_Clone_string_string fu p0) fun x1 =>
  cl true (M_slices_Clone_string_string fu p1) fun x3 =>
  cl true (M_sortS fu x1) fun x7 =>
  cl true (M_sortS fu x3) fun x12 =>
  cl true (M_impl_CommonGrams_L0 fu fu x7 x12 (0 : Int)) fun s19 =>
  some s19
set_option maxRecDepth 100000 in
set_option maxHeartbeats 4000000 in
theorem M_impl_CommonGrams_ok {fu : Nat} {A0 : Av} {p0 : List (List UInt8)} {p1 : List (List UInt8)} {r : Int} (hr : M_impl_CommonGrams fu p0 p1 = some r) {w : World} {v0 : Value} {v1 : Value} (hA : AvOK A0 w) (h0 : Rep (eSl eStr) A0 w v0 p0) (h1 : Rep (eSl eStr) A0 w v1 p1) :
    Calls Try.prog 153 #[v0, v1] w fun e w' => ∃ v, e = .returned v ∧ (v = .int .i64 r ∧ Fr w w') := by
  unfold M_impl_CommonGrams at hr
  obtain ⟨w0, hw0⟩ : ∃ w0, w0 = w := ⟨_, rfl⟩
  have hF : Fr w0 w := hw0 ▸ Fr.refl _
  have hA0 : ∀ b o, A0 b o → b < w0.heap.size := fun b o h => hw0 ▸ hA b o h
  have hA00 : AvOK A0 w0 := hA0
  rw [show Fr w = Fr w0 from hw0 ▸ rfl]
  clear hw0
  obtain ⟨A, hAe⟩ : ∃ A, A = A0 := ⟨_, rfl⟩
  have hAA : ∀ b o, A0 b o → A b o := fun b o h => hAe ▸ h
  replace hA : AvOK A w := hAe ▸ hA
  have hO : IniOK [] A w := IniOK.nil
  refine calls_of_HT2 [.tmp 4] Try.func153 Try.ntmps153 (by decide) rfl rfl (Nat.le_of_ble_eq_true rfl) ?_
  intro R hR
  have f_v0 : Rep (eSl eStr) A w v0 p0 := hAe ▸ h0
  replace h0 : R 0 = v0 := hR 0 _ rfl
  have f_v1 : Rep (eSl eStr) A w v1 p1 := hAe ▸ h1
  replace h1 : R 1 = v1 := hR 1 _ rfl
  clear hR hAe
  refine HT.seq ?_
  refine HT.text (l := ⟨_, true, .raw (.int .i64 (0 : Int))⟩ :: []) (tl := []) (by kernel_rfl) (by kernel_rfl) (by kernel_rfl) ?_ ?_
  · exact
      Obls.cons (Obl.plain rfl rfl fun R' w' hw hs hd => by exact of_assign rfl) <|
      Obls.nil
  intro R w hw hs hF'
  replace h0 : R 0 = v0 := (hs 0 rfl).trans h0
  replace h1 : R 1 = v1 := (hs 1 rfl).trans h1
  replace f_v0 := f_v0.fr hw
  replace f_v1 := f_v1.fr hw
  replace hO := hO.fr hw
  replace hA := hA.fr hw.size
  replace hF := hF.trans hw
  clear hs hF' hw
  refine seqR_nil ?_
  refine HT.seq ?_
  obtain ⟨x1, q2, hr⟩ := cl_some hr
  obtain ⟨x3, q4, hr⟩ := cl_some hr
  refine HT.textR [] (⟨_, true, [], none, true, fun A => .raw v0⟩ :: ⟨_, true, [], some (.vec w0.heap.size 9 eStr x1), true, fun A => .any⟩ :: ⟨_, true, [], none, true, fun A => .raw v1⟩ :: ⟨_, true, [], some (.vec w0.heap.size 9 eStr x3), true, fun A => .any⟩ :: ⟨_, true, [1], some (.vec w0.heap.size 9 eStr x1), true, fun A => .any⟩ :: ⟨_, true, [3], some (.vec w0.heap.size 9 eStr x3), true, fun A => .any⟩ :: []) (by kernel_rfl) (by kernel_rfl) (Wf.mk' (by kernel_rfl) (UAll.cons ust_raw (UAll.cons ust_any (UAll.cons ust_raw (UAll.cons ust_any (UAll.cons ust_any (UAll.cons ust_any (UAll.nil))))))) (by kernel_rfl) (by kernel_rfl)) hO hA ?_ ?_
  · exact
      OblsR.cons (OblR.plain rfl rfl rfl rfl fun A' R' w' ho hd => by have a0 : R' 0 = v0 := (ho.old 0 rfl).trans h0; exact of_move a0) <|
      OblsR.cons (OblR.made _ rfl rfl rfl rfl fun A' R' w' ho hd => by have a0 : R' 8 = v0 := hd 0 _ _ _ rfl rfl rfl rfl rfl; have ra0 := (f_v0.stp ho.stp).eq a0; exact made_call Try.call61 (M_slices_Clone_string_string_ok (q2 rfl) ho.av ra0) (Nat.le_trans hF.size ho.ch.size)) <|
      OblsR.cons (OblR.plain rfl rfl rfl rfl fun A' R' w' ho hd => by have a0 : R' 1 = v1 := (ho.old 1 rfl).trans h1; exact of_move a0) <|
      OblsR.cons (OblR.made _ rfl rfl rfl rfl fun A' R' w' ho hd => by have a0 : R' 10 = v1 := hd 0 _ _ _ rfl rfl rfl rfl rfl; have ra0 := (f_v1.stp ho.stp).eq a0; exact made_call Try.call61 (M_slices_Clone_string_string_ok (q4 rfl) ho.av ra0) (Nat.le_trans hF.size ho.ch.size)) <|
      OblsR.cons (OblR.took 1 _ _ rfl rfl rfl rfl rfl fun A' R' w' ho hd u hok hav hin hop hds => by exact took_assign (hop _ _ rfl rfl rfl rfl).symm hok hav) <|
      OblsR.cons (OblR.took 3 _ _ rfl rfl rfl rfl rfl fun A' R' w' ho hd u hok hav hin hop hds => by exact took_assign (hop _ _ rfl rfl rfl rfl).symm hok hav) <|
      OblsR.nil
  intro done ρ σ A R w hdn hI
  obtain ⟨u5, e_u5⟩ : ∃ u, ρ 4 = u := ⟨_, rfl⟩
  have h5 : R 5 = u5 := (hI.opvR hdn 4 4 rfl rfl rfl rfl rfl).symm.trans e_u5
  obtain ⟨u6, e_u6⟩ : ∃ u, ρ 5 = u := ⟨_, rfl⟩
  have h6 : R 6 = u6 := (hI.opvR hdn 5 5 rfl rfl rfl rfl rfl).symm.trans e_u6
  replace hAA := hI.low' hAA hA0 (hO.ge (trivial))
  replace hF : Fr w0 w := hF.tr hI.ch (hO.ge (trivial))
  replace hO : IniOK [ob u5 (.vec w0.heap.size 9 eStr x1), ob u6 (.vec w0.heap.size 9 eStr x3)] A w := hI.left hdn [(4, ob u5 (.vec w0.heap.size 9 eStr x1)), (5, ob u6 (.vec w0.heap.size 9 eStr x3))] ⟨rfl, rfl, e_u5, rfl, rfl, ⟨rfl, rfl, e_u6, rfl, rfl, trivial⟩⟩
  replace hA := hI.avok
  clear hI
  refine HT.seq ?_
  obtain ⟨x7, q8, hr⟩ := cl_some hr
  refine HT.textR [ob u5 (.vec w0.heap.size 9 eStr x1), ob u6 (.vec w0.heap.size 9 eStr x3)] (⟨_, true, [], none, true, fun A => .raw u5⟩ :: ⟨_, true, [0], some (.vec w0.heap.size 9 eStr x7), false, fun A => .any⟩ :: []) (by kernel_rfl) (by kernel_rfl) (Wf.mk' (by kernel_rfl) (UAll.cons ust_raw (UAll.cons ust_any (UAll.nil))) (by kernel_rfl) (by kernel_rfl)) hO hA ?_ ?_
  · exact
      OblsR.cons (OblR.plain rfl rfl rfl rfl fun A' R' w' ho hd => by have a0 : R' 5 = u5 := (ho.old 5 rfl).trans h5; exact of_move a0) <|
      OblsR.cons (OblR.took 0 _ _ rfl rfl rfl rfl rfl fun A' R' w' ho hd u hok hav hin hop hds => by have a0 : R' 12 = u5 := hd 0 _ _ _ rfl rfl rfl rfl rfl; have hu0 : evalR R' (.tmp 12) = u := a0.trans (hin _ rfl).symm; exact took_call Try.call73 hav (fun _ _ _ _ _ h => h) (by simp only [List.map, hu0]; exact Calls.mono (M_sortS_ok (q8 rfl) (ho.av.sub _) (fun b o h => h.2) (Vec.flat hok (fun _ _ _ _ _ h => h))) (fun _ _ ⟨v, h1, h2, h3, h4⟩ => ⟨v, h1, trivial, h3, h4⟩))) <|
      OblsR.nil
  intro done ρ σ A R w hdn hI
  replace h5 : R 5 = u5 := (hI.reg rfl).trans h5
  replace h6 : R 6 = u6 := (hI.reg rfl).trans h6
  have z9 := hI.inivR 0 rfl
  have z10 := (hI.opnR hdn 3 1 rfl rfl rfl rfl rfl).trans z9
  have z11 := hI.inivR 1 rfl
  replace hAA := hI.low' hAA hA0 (hO.ge (⟨rfl, ⟨rfl, trivial⟩⟩))
  replace hF : Fr w0 w := hF.tr hI.ch (hO.ge (⟨rfl, ⟨rfl, trivial⟩⟩))
  replace hO : IniOK [ob u5 (.vec w0.heap.size 9 eStr x7), ob u6 (.vec w0.heap.size 9 eStr x3)] A w := hI.left hdn [(3, ob u5 (.vec w0.heap.size 9 eStr x7)), (1, ob u6 (.vec w0.heap.size 9 eStr x3))] ⟨rfl, rfl, z10, rfl, rfl, ⟨rfl, rfl, z11, rfl, rfl, trivial⟩⟩
  replace hA := hI.avok
  clear hI
  refine HT.seq ?_
  obtain ⟨x12, q13, hr⟩ := cl_some hr
  refine HT.textR [ob u5 (.vec w0.heap.size 9 eStr x7), ob u6 (.vec w0.heap.size 9 eStr x3)] (⟨_, true, [], none, true, fun A => .raw u6⟩ :: ⟨_, true, [1], some (.vec w0.heap.size 9 eStr x12), false, fun A => .any⟩ :: []) (by kernel_rfl) (by kernel_rfl) (Wf.mk' (by kernel_rfl) (UAll.cons ust_raw (UAll.cons ust_any (UAll.nil))) (by kernel_rfl) (by kernel_rfl)) hO hA ?_ ?_
  · exact
      OblsR.cons (OblR.plain rfl rfl rfl rfl fun A' R' w' ho hd => by have a0 : R' 6 = u6 := (ho.old 6 rfl).trans h6; exact of_move a0) <|
      OblsR.cons (OblR.took 1 _ _ rfl rfl rfl rfl rfl fun A' R' w' ho hd u hok hav hin hop hds => by have a0 : R' 14 = u6 := hd 0 _ _ _ rfl rfl rfl rfl rfl; have hu0 : evalR R' (.tmp 14) = u := a0.trans (hin _ rfl).symm; exact took_call Try.call73 hav (fun _ _ _ _ _ h => h) (by simp only [List.map, hu0]; exact Calls.mono (M_sortS_ok (q13 rfl) (ho.av.sub _) (fun b o h => h.2) (Vec.flat hok (fun _ _ _ _ _ h => h))) (fun _ _ ⟨v, h1, h2, h3, h4⟩ => ⟨v, h1, trivial, h3, h4⟩))) <|
      OblsR.nil
  intro done ρ σ A R w hdn hI
  replace h5 : R 5 = u5 := (hI.reg rfl).trans h5
  replace h6 : R 6 = u6 := (hI.reg rfl).trans h6
  have z14 := hI.inivR 0 rfl
  have z15 := hI.inivR 1 rfl
  have z16 := (hI.opnR hdn 3 1 rfl rfl rfl rfl rfl).trans z15
  replace hAA := hI.low' hAA hA0 (hO.ge (⟨rfl, ⟨rfl, trivial⟩⟩))
  replace hF : Fr w0 w := hF.tr hI.ch (hO.ge (⟨rfl, ⟨rfl, trivial⟩⟩))
  replace hO : IniOK [ob u5 (.vec w0.heap.size 9 eStr x7), ob u6 (.vec w0.heap.size 9 eStr x12)] A w := hI.left hdn [(0, ob u5 (.vec w0.heap.size 9 eStr x7)), (3, ob u6 (.vec w0.heap.size 9 eStr x12))] ⟨rfl, rfl, z14, rfl, rfl, ⟨rfl, rfl, z16, rfl, rfl, trivial⟩⟩
  replace hA := hI.avok
  clear hI
  refine HT.seq ?_
  refine HT.text (l := ⟨_, true, .raw (.int .i64 (0 : Int))⟩ :: []) (tl := []) (by kernel_rfl) (by kernel_rfl) (by kernel_rfl) ?_ ?_
  · exact
      Obls.cons (Obl.plain rfl rfl fun R' w' hw hs hd => by exact of_assign rfl) <|
      Obls.nil
  intro R w hw hs hF'
  replace h5 : R 5 = u5 := (hs 5 rfl).trans h5
  replace h6 : R 6 = u6 := (hs 6 rfl).trans h6
  have h7 : R 7 = .int .i64 (0 : Int) := hF' 0 _ _ rfl rfl rfl
  replace hO := hO.fr hw
  replace hA := hA.fr hw.size
  replace hF := hF.trans hw
  clear hs hF' hw
  refine seqR_nil ?_
  replace hO : IniOK [ob u5 (.vec w0.heap.size 9 eStr x7), ob u6 (.vec w0.heap.size 9 eStr x12)] A w := hO.sub [(0, ob u5 (.vec w0.heap.size 9 eStr x7)), (1, ob u6 (.vec w0.heap.size 9 eStr x12))] ⟨rfl, rfl, ⟨rfl, rfl, trivial⟩⟩
  obtain ⟨A, hle, hAA, hA, hO, f_u5⟩ := hO.freeze hA hAA hA0
  clear hle
  replace hO : IniOK [ob u6 (.vec w0.heap.size 9 eStr x12)] A w := hO.sub [(0, ob u6 (.vec w0.heap.size 9 eStr x12))] ⟨rfl, rfl, trivial⟩
  obtain ⟨A, hle, hAA, hA, hO, f_u6⟩ := hO.freeze hA hAA hA0
  replace f_u5 := f_u5.less hle
  clear hle
  obtain ⟨rl17, q18, hr⟩ := cl_some hr
  replace q18 := q18 rfl
  refine HT.cut (fun R w => ∃ A : Av, ∃ (s19 : Int), rl17 = s19 ∧ AvOK A w ∧ Fr w0 w ∧ (∀ b o, A0 b o → A b o) ∧ IniOK [] A w ∧ R 7 = .int .i64 s19) ?_ ?_
  · refine HT.block ?_
    refine HT.loop (fun k R w => ∃ A : Av, ∃ (y20 : List (List UInt8)) (y21 : List (List UInt8)) (y22 : Int) (wl_5 : Value) (wl_6 : Value), M_impl_CommonGrams_L0 fu k y20 y21 y22 = some rl17 ∧ AvOK A w ∧ Fr w0 w ∧ (∀ b o, A0 b o → A b o) ∧ IniOK [] A w ∧ R 5 = wl_5 ∧ R 6 = wl_6 ∧ R 7 = .int .i64 y22 ∧ Rep (eSl eStr) A w wl_5 y20 ∧ Rep (eSl eStr) A w wl_6 y21) fu ⟨_, _, _, _, u5, u6, q18, hA, hF, hAA, hO, h5, h6, h7, f_u5, f_u6⟩ ?_
    have hr0 := hr; clear hr q18
    rintro k R w ⟨A, y20, y21, y22, wl_5, wl_6, hr, hA, hF, hAA, hO, h5, h6, h7, f_wl_5, f_wl_6⟩
    rcases k with _ | k
    · cases (show none = some _ from hr)
    rw [M_impl_CommonGrams_L0] at hr
    refine HT.seq ?_
    refine HT.seq ?_
    obtain ⟨x23, q24, hr⟩ := bd_some hr
    refine HT.text (l := ⟨_, true, .raw wl_5⟩ :: ⟨_, true, .raw (.int .i64 (y20.length : Int))⟩ :: ⟨_, true, .raw (.bool (decide ((0 : Int) < (y20.length : Int))))⟩ :: ⟨_, true, .raw (.bool (decide ((0 : Int) < (y20.length : Int))))⟩ :: ⟨_, (true && ((decide ((0 : Int) < (y20.length : Int))) == true)), .raw wl_6⟩ :: ⟨_, (true && ((decide ((0 : Int) < (y20.length : Int))) == true)), .raw (.int .i64 (y21.length : Int))⟩ :: ⟨_, (true && ((decide ((0 : Int) < (y20.length : Int))) == true)), .raw (.bool (decide ((0 : Int) < (y21.length : Int))))⟩ :: ⟨_, true, .raw (.bool x23)⟩ :: []) (tl := []) (by kernel_rfl) (by kernel_rfl) (by kernel_rfl) ?_ ?_
    · exact
        Obls.cons (Obl.plain rfl rfl fun R' w' hw hs hd => by have a0 : R' 5 = wl_5 := (hs 5 rfl).trans h5; exact of_move a0) <|
        Obls.cons (Obl.plain rfl rfl fun R' w' hw hs hd => by have a0 : R' 16 = wl_5 := hd 0 _ _ _ rfl rfl rfl rfl rfl; have ra0 := (f_wl_5.fr hw).eq a0; exact of_len_sl (aT := #[]) ra0 Try.underlying23) <|
        Obls.cons (Obl.plain rfl rfl fun R' w' hw hs hd => by have a0 : R' 17 = .int .i64 (y20.length : Int) := hd 0 _ _ _ rfl rfl rfl rfl rfl; exact of_gtr a0 rfl) <|
        Obls.cons (Obl.plain rfl rfl fun R' w' hw hs hd => by have a0 : R' 18 = .bool (decide ((0 : Int) < (y20.length : Int))) := hd 0 _ _ _ rfl rfl rfl rfl rfl; exact of_move a0) <|
        Obls.cons (Obl.grd 3 true _ _ _ rfl rfl rfl rfl rfl (by kernel_rfl) fun hg R' w' hw hs hd => by have a0 : R' 6 = wl_6 := (hs 6 rfl).trans h6; exact of_move a0) <|
        Obls.cons (Obl.grd 3 true _ _ _ rfl rfl rfl rfl rfl (by kernel_rfl) fun hg R' w' hw hs hd => by have a0 : R' 20 = wl_6 := hd 0 _ _ _ rfl rfl rfl rfl hg; have ra0 := (f_wl_6.fr hw).eq a0; exact of_len_sl (aT := #[]) ra0 Try.underlying23) <|
        Obls.cons (Obl.grd 3 true _ _ _ rfl rfl rfl rfl rfl (by kernel_rfl) fun hg R' w' hw hs hd => by have a0 : R' 21 = .int .i64 (y21.length : Int) := hd 0 _ _ _ rfl rfl rfl rfl hg; exact of_gtr a0 rfl) <|
        Obls.cons (Obl.plain rfl rfl fun R' w' hw hs hd => by have a0 : R' 19 = .bool (decide ((0 : Int) < (y20.length : Int))) := hd 0 _ _ _ rfl rfl rfl rfl rfl; exact of_pick (decide ((0 : Int) < (y20.length : Int))) a0 (fun hc => by have a1 : R' 22 = .bool (decide ((0 : Int) < (y21.length : Int))) := hd 1 _ _ _ rfl rfl rfl rfl (g_and rfl (beq_of hc)); show _ = Value.bool x23; rw [q24, hc]; exact a1) (fun hc => by show _ = Value.bool x23; rw [q24, hc]; exact rfl)) <|
        Obls.nil
    intro R w hw hs hF'
    replace h5 : R 5 = wl_5 := (hs 5 rfl).trans h5
    replace h6 : R 6 = wl_6 := (hs 6 rfl).trans h6
    replace h7 : R 7 = .int .i64 y22 := (hs 7 rfl).trans h7
    have h23 : R 23 = .bool x23 := hF' 7 _ _ rfl rfl rfl
    replace f_wl_5 := f_wl_5.fr hw
    replace f_wl_6 := f_wl_6.fr hw
    replace hO := hO.fr hw
    replace hA := hA.fr hw.size
    replace hF := hF.trans hw
    clear hs hF' hw
    refine seqR_nil ?_
    refine HT.cond x23 h23 (fun c25 => ?_) (fun c25 => ?_)
    · have hr := cnd_t c25 hr
      refine HT.skip ?_
      refine HT.block ?_
      refine HT.block ?_
      refine HT.seq ?_
      obtain ⟨e26, hr⟩ := ck_some hr
      obtain ⟨e27, hr⟩ := ck_some hr
      refine HT.draw (by kernel_rfl) (l := ⟨_, true, .raw wl_5⟩ :: ⟨_, true, .qtr eStr A (gtD y20 (0 : Int))⟩ :: ⟨_, true, .rep eStr A (gtD y20 (0 : Int))⟩ :: ⟨_, true, .raw wl_6⟩ :: ⟨_, true, .qtr eStr A (gtD y21 (0 : Int))⟩ :: ⟨_, true, .rep eStr A (gtD y21 (0 : Int))⟩ :: ⟨_, true, .raw (.bool (bLt (gtD y20 (0 : Int)) (gtD y21 (0 : Int))))⟩ :: ⟨_, true, .raw (.bool (bLt (gtD y20 (0 : Int)) (gtD y21 (0 : Int))))⟩ :: []) (tl := []) (by kernel_rfl) (by kernel_rfl) (by kernel_rfl) (by kernel_rfl) ?_ ?_
      · exact
          Obls.cons (Obl.plain rfl rfl fun R' w' hw hs hd => by have a0 : R' 5 = wl_5 := (hs 5 rfl).trans h5; exact of_move a0) <|
          Obls.cons (Obl.plain rfl rfl fun R' w' hw hs hd => by have a0 : R' 31 = wl_5 := hd 0 _ _ _ rfl rfl rfl rfl rfl; have ra0 := (f_wl_5.fr hw).eq a0; exact of_indexAddr ra0 rfl Try.underlying23 Try.sizeOf9 e26) <|
          Obls.cons (Obl.plain rfl rfl fun R' w' hw hs hd => by have a0 : QRep eStr A w' (R' 32) (gtD y20 (0 : Int)) := hd 0 _ _ _ rfl rfl rfl rfl rfl; exact (of_load a0.ptr Try.isAgg9 Try.sizeOf9)) <|
          Obls.cons (Obl.plain rfl rfl fun R' w' hw hs hd => by have a0 : R' 6 = wl_6 := (hs 6 rfl).trans h6; exact of_move a0) <|
          Obls.cons (Obl.plain rfl rfl fun R' w' hw hs hd => by have a0 : R' 34 = wl_6 := hd 0 _ _ _ rfl rfl rfl rfl rfl; have ra0 := (f_wl_6.fr hw).eq a0; exact of_indexAddr ra0 rfl Try.underlying23 Try.sizeOf9 e27) <|
          Obls.cons (Obl.plain rfl rfl fun R' w' hw hs hd => by have a0 : QRep eStr A w' (R' 35) (gtD y21 (0 : Int)) := hd 0 _ _ _ rfl rfl rfl rfl rfl; exact (of_load a0.ptr Try.isAgg9 Try.sizeOf9)) <|
          Obls.cons (Obl.plain rfl rfl fun R' w' hw hs hd => by have a0 : Rep eStr A w' (R' 33) (gtD y20 (0 : Int)) := hd 0 _ _ _ rfl rfl rfl rfl rfl; have a1 : Rep eStr A w' (R' 36) (gtD y21 (0 : Int)) := hd 1 _ _ _ rfl rfl rfl rfl rfl; exact of_slss a0 a1) <|
          Obls.cons (Obl.plain rfl rfl fun R' w' hw hs hd => by have a0 : R' 37 = .bool (bLt (gtD y20 (0 : Int)) (gtD y21 (0 : Int))) := hd 0 _ _ _ rfl rfl rfl rfl rfl; exact of_assign a0) <|
          Obls.nil
      intro R w hw hs hF'
      replace h5 : R 5 = wl_5 := (hs 5 rfl).trans h5
      replace h6 : R 6 = wl_6 := (hs 6 rfl).trans h6
      replace h7 : R 7 = .int .i64 y22 := (hs 7 rfl).trans h7
      have h30 : R 30 = .bool (bLt (gtD y20 (0 : Int)) (gtD y21 (0 : Int))) := hF' 7 _ _ rfl rfl rfl
      replace f_wl_5 := f_wl_5.fr hw
      replace f_wl_6 := f_wl_6.fr hw
      replace hO := hO.fr hw
      replace hA := hA.fr hw.size
      replace hF := hF.trans hw
      clear hs hF' hw
      refine seqR_nil ?_
      refine HT.cond (bLt (gtD y20 (0 : Int)) (gtD y21 (0 : Int))) h30 (fun c28 => ?_) (fun c28 => ?_)
      · have hr := cnd_t c28 hr
        obtain ⟨e29, hr⟩ := ck_some hr
        refine HT.text (l := ⟨_, true, .raw wl_5⟩ :: ⟨_, true, .rep (eSl eStr) A (subL y20 (1 : Int) (y20.length : Int))⟩ :: ⟨_, true, .rep (eSl eStr) A (subL y20 (1 : Int) (y20.length : Int))⟩ :: []) (tl := []) (by kernel_rfl) (by kernel_rfl) (by kernel_rfl) ?_ ?_
        · exact
            Obls.cons (Obl.plain rfl rfl fun R' w' hw hs hd => by have a0 : R' 5 = wl_5 := (hs 5 rfl).trans h5; exact of_move a0) <|
            Obls.cons (Obl.plain rfl rfl fun R' w' hw hs hd => by have a0 : R' 38 = wl_5 := hd 0 _ _ _ rfl rfl rfl rfl rfl; have ra0 := (f_wl_5.fr hw).eq a0; exact of_slice_sl_lo ra0 rfl Try.underlying23 Try.sizeOf9 e29) <|
            Obls.cons (Obl.plain rfl rfl fun R' w' hw hs hd => by have a0 : Rep (eSl eStr) A w' (R' 39) (subL y20 (1 : Int) (y20.length : Int)) := hd 0 _ _ _ rfl rfl rfl rfl rfl; exact of_assign a0) <|
            Obls.nil
        intro R w hw hs hF'
        replace h6 : R 6 = wl_6 := (hs 6 rfl).trans h6
        replace h7 : R 7 = .int .i64 y22 := (hs 7 rfl).trans h7
        obtain ⟨u30, h5, f_u30⟩ : ∃ u, R 5 = u ∧ Rep (eSl eStr) A w u (subL y20 (1 : Int) (y20.length : Int)) := ⟨_, rfl, hF' 2 _ _ rfl rfl rfl⟩
        replace f_wl_6 := f_wl_6.fr hw
        replace hO := hO.fr hw
        replace hA := hA.fr hw.size
        replace hF := hF.trans hw
        clear hs hF' hw
        refine seqR_nil ?_
        exact Exists.intro k (And.intro (Nat.lt_succ_self k) ⟨_, _, _, _, u30, wl_6, hr, hA, hF, hAA, hO, h5, h6, h7, f_u30, f_wl_6⟩)
      · have hr := cnd_f c28 hr
        refine HT.seq ?_
        obtain ⟨e31, hr⟩ := ck_some hr
        obtain ⟨e32, hr⟩ := ck_some hr
        refine HT.draw (by kernel_rfl) (l := ⟨_, true, .raw wl_6⟩ :: ⟨_, true, .qtr eStr A (gtD y21 (0 : Int))⟩ :: ⟨_, true, .rep eStr A (gtD y21 (0 : Int))⟩ :: ⟨_, true, .raw wl_5⟩ :: ⟨_, true, .qtr eStr A (gtD y20 (0 : Int))⟩ :: ⟨_, true, .rep eStr A (gtD y20 (0 : Int))⟩ :: ⟨_, true, .raw (.bool (bLt (gtD y21 (0 : Int)) (gtD y20 (0 : Int))))⟩ :: ⟨_, true, .raw (.bool (bLt (gtD y21 (0 : Int)) (gtD y20 (0 : Int))))⟩ :: []) (tl := []) (by kernel_rfl) (by kernel_rfl) (by kernel_rfl) (by kernel_rfl) ?_ ?_
        · exact
            Obls.cons (Obl.plain rfl rfl fun R' w' hw hs hd => by have a0 : R' 6 = wl_6 := (hs 6 rfl).trans h6; exact of_move a0) <|
            Obls.cons (Obl.plain rfl rfl fun R' w' hw hs hd => by have a0 : R' 41 = wl_6 := hd 0 _ _ _ rfl rfl rfl rfl rfl; have ra0 := (f_wl_6.fr hw).eq a0; exact of_indexAddr ra0 rfl Try.underlying23 Try.sizeOf9 e31) <|
            Obls.cons (Obl.plain rfl rfl fun R' w' hw hs hd => by have a0 : QRep eStr A w' (R' 42) (gtD y21 (0 : Int)) := hd 0 _ _ _ rfl rfl rfl rfl rfl; exact (of_load a0.ptr Try.isAgg9 Try.sizeOf9)) <|
            Obls.cons (Obl.plain rfl rfl fun R' w' hw hs hd => by have a0 : R' 5 = wl_5 := (hs 5 rfl).trans h5; exact of_move a0) <|
            Obls.cons (Obl.plain rfl rfl fun R' w' hw hs hd => by have a0 : R' 44 = wl_5 := hd 0 _ _ _ rfl rfl rfl rfl rfl; have ra0 := (f_wl_5.fr hw).eq a0; exact of_indexAddr ra0 rfl Try.underlying23 Try.sizeOf9 e32) <|
            Obls.cons (Obl.plain rfl rfl fun R' w' hw hs hd => by have a0 : QRep eStr A w' (R' 45) (gtD y20 (0 : Int)) := hd 0 _ _ _ rfl rfl rfl rfl rfl; exact (of_load a0.ptr Try.isAgg9 Try.sizeOf9)) <|
            Obls.cons (Obl.plain rfl rfl fun R' w' hw hs hd => by have a0 : Rep eStr A w' (R' 43) (gtD y21 (0 : Int)) := hd 0 _ _ _ rfl rfl rfl rfl rfl; have a1 : Rep eStr A w' (R' 46) (gtD y20 (0 : Int)) := hd 1 _ _ _ rfl rfl rfl rfl rfl; exact of_slss a0 a1) <|
            Obls.cons (Obl.plain rfl rfl fun R' w' hw hs hd => by have a0 : R' 47 = .bool (bLt (gtD y21 (0 : Int)) (gtD y20 (0 : Int))) := hd 0 _ _ _ rfl rfl rfl rfl rfl; exact of_assign a0) <|
            Obls.nil
        intro R w hw hs hF'
        replace h5 : R 5 = wl_5 := (hs 5 rfl).trans h5
        replace h6 : R 6 = wl_6 := (hs 6 rfl).trans h6
        replace h7 : R 7 = .int .i64 y22 := (hs 7 rfl).trans h7
        have h40 : R 40 = .bool (bLt (gtD y21 (0 : Int)) (gtD y20 (0 : Int))) := hF' 7 _ _ rfl rfl rfl
        replace f_wl_5 := f_wl_5.fr hw
        replace f_wl_6 := f_wl_6.fr hw
        replace hO := hO.fr hw
        replace hA := hA.fr hw.size
        replace hF := hF.trans hw
        clear hs hF' hw
        refine seqR_nil ?_
        refine HT.cond (bLt (gtD y21 (0 : Int)) (gtD y20 (0 : Int))) h40 (fun c33 => ?_) (fun c33 => ?_)
        · have hr := cnd_t c33 hr
          obtain ⟨e34, hr⟩ := ck_some hr
          refine HT.text (l := ⟨_, true, .raw wl_6⟩ :: ⟨_, true, .rep (eSl eStr) A (subL y21 (1 : Int) (y21.length : Int))⟩ :: ⟨_, true, .rep (eSl eStr) A (subL y21 (1 : Int) (y21.length : Int))⟩ :: []) (tl := []) (by kernel_rfl) (by kernel_rfl) (by kernel_rfl) ?_ ?_
          · exact
              Obls.cons (Obl.plain rfl rfl fun R' w' hw hs hd => by have a0 : R' 6 = wl_6 := (hs 6 rfl).trans h6; exact of_move a0) <|
              Obls.cons (Obl.plain rfl rfl fun R' w' hw hs hd => by have a0 : R' 48 = wl_6 := hd 0 _ _ _ rfl rfl rfl rfl rfl; have ra0 := (f_wl_6.fr hw).eq a0; exact of_slice_sl_lo ra0 rfl Try.underlying23 Try.sizeOf9 e34) <|
              Obls.cons (Obl.plain rfl rfl fun R' w' hw hs hd => by have a0 : Rep (eSl eStr) A w' (R' 49) (subL y21 (1 : Int) (y21.length : Int)) := hd 0 _ _ _ rfl rfl rfl rfl rfl; exact of_assign a0) <|
              Obls.nil
          intro R w hw hs hF'
          replace h5 : R 5 = wl_5 := (hs 5 rfl).trans h5
          replace h7 : R 7 = .int .i64 y22 := (hs 7 rfl).trans h7
          obtain ⟨u35, h6, f_u35⟩ : ∃ u, R 6 = u ∧ Rep (eSl eStr) A w u (subL y21 (1 : Int) (y21.length : Int)) := ⟨_, rfl, hF' 2 _ _ rfl rfl rfl⟩
          replace f_wl_5 := f_wl_5.fr hw
          replace hO := hO.fr hw
          replace hA := hA.fr hw.size
          replace hF := hF.trans hw
          clear hs hF' hw
          refine seqR_nil ?_
          exact Exists.intro k (And.intro (Nat.lt_succ_self k) ⟨_, _, _, _, wl_5, u35, hr, hA, hF, hAA, hO, h5, h6, h7, f_wl_5, f_u35⟩)
        · have hr := cnd_f c33 hr
          refine HT.seq ?_
          obtain ⟨e36, hr⟩ := ck_some hr
          obtain ⟨e37, hr⟩ := ck_some hr
          refine HT.draw (by kernel_rfl) (l := ⟨_, true, .raw wl_5⟩ :: ⟨_, true, .rep (eSl eStr) A (subL y20 (1 : Int) (y20.length : Int))⟩ :: ⟨_, true, .raw wl_6⟩ :: ⟨_, true, .rep (eSl eStr) A (subL y21 (1 : Int) (y21.length : Int))⟩ :: ⟨_, true, .rep (eSl eStr) A (subL y20 (1 : Int) (y20.length : Int))⟩ :: ⟨_, true, .rep (eSl eStr) A (subL y21 (1 : Int) (y21.length : Int))⟩ :: []) (tl := []) (by kernel_rfl) (by kernel_rfl) (by kernel_rfl) (by kernel_rfl) ?_ ?_
          · exact
              Obls.cons (Obl.plain rfl rfl fun R' w' hw hs hd => by have a0 : R' 5 = wl_5 := (hs 5 rfl).trans h5; exact of_move a0) <|
              Obls.cons (Obl.plain rfl rfl fun R' w' hw hs hd => by have a0 : R' 24 = wl_5 := hd 0 _ _ _ rfl rfl rfl rfl rfl; have ra0 := (f_wl_5.fr hw).eq a0; exact of_slice_sl_lo ra0 rfl Try.underlying23 Try.sizeOf9 e36) <|
              Obls.cons (Obl.plain rfl rfl fun R' w' hw hs hd => by have a0 : R' 6 = wl_6 := (hs 6 rfl).trans h6; exact of_move a0) <|
              Obls.cons (Obl.plain rfl rfl fun R' w' hw hs hd => by have a0 : R' 26 = wl_6 := hd 0 _ _ _ rfl rfl rfl rfl rfl; have ra0 := (f_wl_6.fr hw).eq a0; exact of_slice_sl_lo ra0 rfl Try.underlying23 Try.sizeOf9 e37) <|
              Obls.cons (Obl.plain rfl rfl fun R' w' hw hs hd => by have a0 : Rep (eSl eStr) A w' (R' 25) (subL y20 (1 : Int) (y20.length : Int)) := hd 0 _ _ _ rfl rfl rfl rfl rfl; exact of_assign a0) <|
              Obls.cons (Obl.plain rfl rfl fun R' w' hw hs hd => by have a0 : Rep (eSl eStr) A w' (R' 27) (subL y21 (1 : Int) (y21.length : Int)) := hd 0 _ _ _ rfl rfl rfl rfl rfl; exact of_assign a0) <|
              Obls.nil
          intro R w hw hs hF'
          replace h7 : R 7 = .int .i64 y22 := (hs 7 rfl).trans h7
          obtain ⟨u38, h5, f_u38⟩ : ∃ u, R 5 = u ∧ Rep (eSl eStr) A w u (subL y20 (1 : Int) (y20.length : Int)) := ⟨_, rfl, hF' 4 _ _ rfl rfl rfl⟩
          obtain ⟨u39, h6, f_u39⟩ : ∃ u, R 6 = u ∧ Rep (eSl eStr) A w u (subL y21 (1 : Int) (y21.length : Int)) := ⟨_, rfl, hF' 5 _ _ rfl rfl rfl⟩
          replace hO := hO.fr hw
          replace hA := hA.fr hw.size
          replace hF := hF.trans hw
          clear hs hF' hw
          refine seqR_nil ?_
          obtain ⟨e40, hr⟩ := ck_some hr
          refine HT.text (l := ⟨_, true, .raw (.int .i64 y22)⟩ :: ⟨_, true, .raw (.int .i64 (y22 + (1 : Int)))⟩ :: ⟨_, true, .raw (.int .i64 (y22 + (1 : Int)))⟩ :: []) (tl := []) (by kernel_rfl) (by kernel_rfl) (by kernel_rfl) ?_ ?_
          · exact
              Obls.cons (Obl.plain rfl rfl fun R' w' hw hs hd => by have a0 : R' 7 = .int .i64 y22 := (hs 7 rfl).trans h7; exact of_move a0) <|
              Obls.cons (Obl.plain rfl rfl fun R' w' hw hs hd => by have a0 : R' 28 = .int .i64 y22 := hd 0 _ _ _ rfl rfl rfl rfl rfl; exact of_add a0 rfl e40) <|
              Obls.cons (Obl.plain rfl rfl fun R' w' hw hs hd => by have a0 : R' 29 = .int .i64 (y22 + (1 : Int)) := hd 0 _ _ _ rfl rfl rfl rfl rfl; exact of_assign a0) <|
              Obls.nil
          intro R w hw hs hF'
          replace h5 : R 5 = u38 := (hs 5 rfl).trans h5
          replace h6 : R 6 = u39 := (hs 6 rfl).trans h6
          have h7 : R 7 = .int .i64 (y22 + (1 : Int)) := hF' 2 _ _ rfl rfl rfl
          replace f_u38 := f_u38.fr hw
          replace f_u39 := f_u39.fr hw
          replace hO := hO.fr hw
          replace hA := hA.fr hw.size
          replace hF := hF.trans hw
          clear hs hF' hw
          refine seqR_nil ?_
          exact Exists.intro k (And.intro (Nat.lt_succ_self k) ⟨_, _, _, _, u38, u39, hr, hA, hF, hAA, hO, h5, h6, h7, f_u38, f_u39⟩)
    · have hr := cnd_f c25 hr
      refine HT.exit ?_
      obtain rfl := Option.some.inj hr
      exact Exists.intro _ ⟨_, rfl, hA, hF, hAA, hO, h7⟩
  rintro R w ⟨A, s19, es, hA, hF, hAA, hO, h7⟩
  obtain rfl := es.symm
  refine HT.seq ?_
  refine HT.text (l := ⟨_, true, .raw (.int .i64 s19)⟩ :: ⟨_, true, .raw (.int .i64 s19)⟩ :: []) (tl := []) (by kernel_rfl) (by kernel_rfl) (by kernel_rfl) ?_ ?_
  · exact
      Obls.cons (Obl.plain rfl rfl fun R' w' hw hs hd => by have a0 : R' 7 = .int .i64 s19 := (hs 7 rfl).trans h7; exact of_move a0) <|
      Obls.cons (Obl.plain rfl rfl fun R' w' hw hs hd => by have a0 : R' 50 = .int .i64 s19 := hd 0 _ _ _ rfl rfl rfl rfl rfl; exact of_assign a0) <|
      Obls.nil
  intro R w hw hs hF'
  have h4 : R 4 = .int .i64 s19 := hF' 1 _ _ rfl rfl rfl
  replace hO := hO.fr hw
  replace hA := hA.fr hw.size
  replace hF := hF.trans hw
  clear hs hF' hw
  refine seqR_nil ?_
  refine HT.ret ?_
  obtain rfl := Option.some.inj hr
  exact ⟨.inr rfl, [R 4], ⟨rfl, trivial⟩, h4, hF⟩
def M_impl_overlap (fu : Nat) (p0 : List (List UInt8)) (p1 : List (List UInt8)) : Option Int :=
  cl true (M_impl_CommonGrams fu p0 p1) fun x1 =>
  some x1
set_option maxRecDepth 100000 in
set_option maxHeartbeats 4000000 in
theorem M_impl_overlap_ok {fu : Nat} {A : Av} {p0 : List (List UInt8)} {p1 : List (List UInt8)} {r : Int} (hr : M_impl_overlap fu p0 p1 = some r) {w : World} {v0 : Value} {v1 : Value} (hA : AvOK A w) (h0 : Rep (eSl eStr) A w v0 p0) (h1 : Rep (eSl eStr) A w v1 p1) :
    Calls Try.prog 125 #[v0, v1] w fun e w' => ∃ v, e = .returned v ∧ (v = .int .i64 r ∧ Fr w w') := by
  unfold M_impl_overlap at hr
  obtain ⟨w0, hw0⟩ : ∃ w0, w0 = w := ⟨_, rfl⟩
  have hF : Fr w0 w := hw0 ▸ Fr.refl _
  rw [show Fr w = Fr w0 from hw0 ▸ rfl]
  clear hw0
  refine calls_of_HT2 [.tmp 4] Try.func125 Try.ntmps125 (by decide) rfl rfl (Nat.le_of_ble_eq_true rfl) ?_
  intro R hR
  have f_v0 := h0
  replace h0 : R 0 = v0 := hR 0 _ rfl
  have f_v1 := h1
  replace h1 : R 1 = v1 := hR 1 _ rfl
  clear hR
  refine HT.seq ?_
  refine HT.text (l := ⟨_, true, .raw (.int .i64 (0 : Int))⟩ :: []) (tl := []) (by kernel_rfl) (by kernel_rfl) (by kernel_rfl) ?_ ?_
  · exact
      Obls.cons (Obl.plain rfl rfl fun R' w' hw hs hd => by exact of_assign rfl) <|
      Obls.nil
  intro R w hw hs hF'
  replace h0 : R 0 = v0 := (hs 0 rfl).trans h0
  replace h1 : R 1 = v1 := (hs 1 rfl).trans h1
  replace f_v0 := f_v0.fr hw
  replace f_v1 := f_v1.fr hw
  replace hA := hA.fr hw.size
  replace hF := hF.trans hw
  clear hs hF' hw
  refine seqR_nil ?_
  refine HT.seq ?_
  obtain ⟨x1, q2, hr⟩ := cl_some hr
  refine HT.text (l := ⟨_, true, .raw v0⟩ :: ⟨_, true, .raw v1⟩ :: ⟨_, true, .raw (.int .i64 x1)⟩ :: ⟨_, true, .raw (.int .i64 x1)⟩ :: []) (tl := []) (by kernel_rfl) (by kernel_rfl) (by kernel_rfl) ?_ ?_
  · exact
      Obls.cons (Obl.plain rfl rfl fun R' w' hw hs hd => by have a0 : R' 0 = v0 := (hs 0 rfl).trans h0; exact of_move a0) <|
      Obls.cons (Obl.plain rfl rfl fun R' w' hw hs hd => by have a0 : R' 1 = v1 := (hs 1 rfl).trans h1; exact of_move a0) <|
      Obls.cons (Obl.plain rfl rfl fun R' w' hw hs hd => by have a0 : R' 5 = v0 := hd 0 _ _ _ rfl rfl rfl rfl rfl; have ra0 := (f_v0.fr hw).eq a0; have a1 : R' 6 = v1 := hd 1 _ _ _ rfl rfl rfl rfl rfl; have ra1 := (f_v1.fr hw).eq a1; exact of_call Try.call153 (M_impl_CommonGrams_ok (q2 rfl) (hA.fr hw.size) ra0 ra1)) <|
      Obls.cons (Obl.plain rfl rfl fun R' w' hw hs hd => by have a0 : R' 7 = .int .i64 x1 := hd 0 _ _ _ rfl rfl rfl rfl rfl; exact of_assign a0) <|
      Obls.nil
  intro R w hw hs hF'
  have h4 : R 4 = .int .i64 x1 := hF' 3 _ _ rfl rfl rfl
  replace hA := hA.fr hw.size
  replace hF := hF.trans hw
  clear hs hF' hw
  refine seqR_nil ?_
  refine HT.ret ?_
  obtain rfl := Option.some.inj hr
  exact ⟨.inr rfl, [R 4], ⟨rfl, trivial⟩, h4, hF⟩
def M_impl_MeetsJaccard (fu : Nat) (p0 : List (List UInt8)) (p1 : List (List UInt8)) (p2 : Int) : Option Bool :=
  cl true (M_impl_areTokenSets fu p0 p1) fun x1 =>
  cl (true && ((!x1) == false)) (M_impl_isSize fu (p0.length : Int)) fun x3 =>
  bd ((!x1) || (!x3)) fun x5 =>
  cl (true && (x5 == false)) (M_impl_isSize fu (p1.length : Int)) fun x7 =>
  bd (x5 || (!x7)) fun x9 =>
  cl (true && (x9 == false)) (M_impl_isThreshold fu p2) fun x11 =>
  bd (x9 || (!x11)) fun x13 =>
  bif x13 then (
    some false
  ) else (
    cl true (M_impl_overlap fu p0 p1) fun x16 =>
    ck (i64B ((1000 : Int) * x16)) <|
    ck (i64B ((p0.length : Int) + (p1.length : Int))) <|
    ck (i64B (((p0.length : Int) + (p1.length : Int)) - x16)) <|
    ck (i64B (p2 * (((p0.length : Int) + (p1.length : Int)) - x16))) <|
    some (decide ((p2 * (((p0.length : Int) + (p1.length : Int)) - x16)) ≤ ((1000 : Int) * x16)))
  )
set_option maxRecDepth 100000 in
set_option maxHeartbeats 4000000 in
theorem M_impl_MeetsJaccard_ok {fu : Nat} {A : Av} {p0 : List (List UInt8)} {p1 : List (List UInt8)} {p2 : Int} {r : Bool} (hr : M_impl_MeetsJaccard fu p0 p1 p2 = some r) {w : World} {v0 : Value} {v1 : Value} {v2 : Value} (hA : AvOK A w) (h0 : Rep (eSl eStr) A w v0 p0) (h1 : Rep (eSl eStr) A w v1 p1) (h2 : v2 = .int .i64 p2) :
    Calls Try.prog 96 #[v0, v1, v2] w fun e w' => ∃ v, e = .returned v ∧ (v = .bool r ∧ Fr w w') := by
  unfold M_impl_MeetsJaccard at hr
  obtain ⟨w0, hw0⟩ : ∃ w0, w0 = w := ⟨_, rfl⟩
  have hF : Fr w0 w := hw0 ▸ Fr.refl _
  rw [show Fr w = Fr w0 from hw0 ▸ rfl]
  clear hw0
  refine calls_of_HT2 [.tmp 6] Try.func96 Try.ntmps96 (by decide) rfl rfl (Nat.le_of_ble_eq_true rfl) ?_
  intro R hR
  have f_v0 := h0
  replace h0 : R 0 = v0 := hR 0 _ rfl
  have f_v1 := h1
  replace h1 : R 1 = v1 := hR 1 _ rfl
  replace h2 : R 2 = .int .i64 p2 := (hR 2 _ rfl).trans h2
  clear hR
  refine HT.seq ?_
  refine HT.text (l := ⟨_, true, .raw (.bool false)⟩ :: []) (tl := []) (by kernel_rfl) (by kernel_rfl) (by kernel_rfl) ?_ ?_
  · exact
      Obls.cons (Obl.plain rfl rfl fun R' w' hw hs hd => by exact of_assign rfl) <|
      Obls.nil
  intro R w hw hs hF'
  replace h0 : R 0 = v0 := (hs 0 rfl).trans h0
  replace h1 : R 1 = v1 := (hs 1 rfl).trans h1
  replace h2 : R 2 = .int .i64 p2 := (hs 2 rfl).trans h2
  replace f_v0 := f_v0.fr hw
  replace f_v1 := f_v1.fr hw
  replace hA := hA.fr hw.size
  replace hF := hF.trans hw
  clear hs hF' hw
  refine seqR_nil ?_
  refine HT.seq ?_
  refine HT.seq ?_
  obtain ⟨x1, q2, hr⟩ := cl_some hr
  obtain ⟨x3, q4, hr⟩ := cl_some hr
  obtain ⟨x5, q6, hr⟩ := bd_some hr
  obtain ⟨x7, q8, hr⟩ := cl_some hr
  obtain ⟨x9, q10, hr⟩ := bd_some hr
  obtain ⟨x11, q12, hr⟩ := cl_some hr
  obtain ⟨x13, q14, hr⟩ := bd_some hr
  refine HT.text (l := ⟨_, true, .raw v0⟩ :: ⟨_, true, .raw v1⟩ :: ⟨_, true, .raw (.bool x1)⟩ :: ⟨_, true, .raw (.bool (!x1))⟩ :: ⟨_, true, .raw (.bool (!x1))⟩ :: ⟨_, (true && ((!x1) == false)), .raw v0⟩ :: ⟨_, (true && ((!x1) == false)), .raw (.int .i64 (p0.length : Int))⟩ :: ⟨_, (true && ((!x1) == false)), .raw (.bool x3)⟩ :: ⟨_, (true && ((!x1) == false)), .raw (.bool (!x3))⟩ :: ⟨_, true, .raw (.bool x5)⟩ :: ⟨_, true, .raw (.bool x5)⟩ :: ⟨_, (true && (x5 == false)), .raw v1⟩ :: ⟨_, (true && (x5 == false)), .raw (.int .i64 (p1.length : Int))⟩ :: ⟨_, (true && (x5 == false)), .raw (.bool x7)⟩ :: ⟨_, (true && (x5 == false)), .raw (.bool (!x7))⟩ :: ⟨_, true, .raw (.bool x9)⟩ :: ⟨_, true, .raw (.bool x9)⟩ :: ⟨_, (true && (x9 == false)), .raw (.int .i64 p2)⟩ :: ⟨_, (true && (x9 == false)), .raw (.bool x11)⟩ :: ⟨_, (true && (x9 == false)), .raw (.bool (!x11))⟩ :: ⟨_, true, .raw (.bool x13)⟩ :: []) (tl := []) (by kernel_rfl) (by kernel_rfl) (by kernel_rfl) ?_ ?_
  · exact
      Obls.cons (Obl.plain rfl rfl fun R' w' hw hs hd => by have a0 : R' 0 = v0 := (hs 0 rfl).trans h0; exact of_move a0) <|
      Obls.cons (Obl.plain rfl rfl fun R' w' hw hs hd => by have a0 : R' 1 = v1 := (hs 1 rfl).trans h1; exact of_move a0) <|
      Obls.cons (Obl.plain rfl rfl fun R' w' hw hs hd => by have a0 : R' 8 = v0 := hd 0 _ _ _ rfl rfl rfl rfl rfl; have ra0 := (f_v0.fr hw).eq a0; have a1 : R' 9 = v1 := hd 1 _ _ _ rfl rfl rfl rfl rfl; have ra1 := (f_v1.fr hw).eq a1; exact of_call Try.call123 (M_impl_areTokenSets_ok (q2 rfl) (hA.fr hw.size) ra0 ra1)) <|
      Obls.cons (Obl.plain rfl rfl fun R' w' hw hs hd => by have a0 : R' 10 = .bool x1 := hd 0 _ _ _ rfl rfl rfl rfl rfl; exact of_not a0) <|
      Obls.cons (Obl.plain rfl rfl fun R' w' hw hs hd => by have a0 : R' 11 = .bool (!x1) := hd 0 _ _ _ rfl rfl rfl rfl rfl; exact of_move a0) <|
      Obls.cons (Obl.grd 4 false _ _ _ rfl rfl rfl rfl rfl (by kernel_rfl) fun hg R' w' hw hs hd => by have a0 : R' 0 = v0 := (hs 0 rfl).trans h0; exact of_move a0) <|
      Obls.cons (Obl.grd 4 false _ _ _ rfl rfl rfl rfl rfl (by kernel_rfl) fun hg R' w' hw hs hd => by have a0 : R' 13 = v0 := hd 0 _ _ _ rfl rfl rfl rfl hg; have ra0 := (f_v0.fr hw).eq a0; exact of_len_sl (aT := #[]) ra0 Try.underlying23) <|
      Obls.cons (Obl.grd 4 false _ _ _ rfl rfl rfl rfl rfl (by kernel_rfl) fun hg R' w' hw hs hd => by have a0 : R' 14 = .int .i64 (p0.length : Int) := hd 0 _ _ _ rfl rfl rfl rfl hg; exact of_call Try.call124 (M_impl_isSize_ok (q4 hg) (hA.fr hw.size) a0)) <|
      Obls.cons (Obl.grd 4 false _ _ _ rfl rfl rfl rfl rfl (by kernel_rfl) fun hg R' w' hw hs hd => by have a0 : R' 15 = .bool x3 := hd 0 _ _ _ rfl rfl rfl rfl hg; exact of_not a0) <|
      Obls.cons (Obl.plain rfl rfl fun R' w' hw hs hd => by have a0 : R' 12 = .bool (!x1) := hd 0 _ _ _ rfl rfl rfl rfl rfl; exact of_pick (!x1) a0 (fun hc => by show _ = Value.bool x5; rw [q6, hc]; exact rfl) (fun hc => by have a2 : R' 16 = .bool (!x3) := hd 1 _ _ _ rfl rfl rfl rfl (g_and rfl (beq_of hc)); show _ = Value.bool x5; rw [q6, hc]; exact a2)) <|
      Obls.cons (Obl.plain rfl rfl fun R' w' hw hs hd => by have a0 : R' 17 = .bool x5 := hd 0 _ _ _ rfl rfl rfl rfl rfl; exact of_move a0) <|
      Obls.cons (Obl.grd 10 false _ _ _ rfl rfl rfl rfl rfl (by kernel_rfl) fun hg R' w' hw hs hd => by have a0 : R' 1 = v1 := (hs 1 rfl).trans h1; exact of_move a0) <|
      Obls.cons (Obl.grd 10 false _ _ _ rfl rfl rfl rfl rfl (by kernel_rfl) fun hg R' w' hw hs hd => by have a0 : R' 19 = v1 := hd 0 _ _ _ rfl rfl rfl rfl hg; have ra0 := (f_v1.fr hw).eq a0; exact of_len_sl (aT := #[]) ra0 Try.underlying23) <|
      Obls.cons (Obl.grd 10 false _ _ _ rfl rfl rfl rfl rfl (by kernel_rfl) fun hg R' w' hw hs hd => by have a0 : R' 20 = .int .i64 (p1.length : Int) := hd 0 _ _ _ rfl rfl rfl rfl hg; exact of_call Try.call124 (M_impl_isSize_ok (q8 hg) (hA.fr hw.size) a0)) <|
      Obls.cons (Obl.grd 10 false _ _ _ rfl rfl rfl rfl rfl (by kernel_rfl) fun hg R' w' hw hs hd => by have a0 : R' 21 = .bool x7 := hd 0 _ _ _ rfl rfl rfl rfl hg; exact of_not a0) <|
      Obls.cons (Obl.plain rfl rfl fun R' w' hw hs hd => by have a0 : R' 18 = .bool x5 := hd 0 _ _ _ rfl rfl rfl rfl rfl; exact of_pick x5 a0 (fun hc => by show _ = Value.bool x9; rw [q10, hc]; exact rfl) (fun hc => by have a2 : R' 22 = .bool (!x7) := hd 1 _ _ _ rfl rfl rfl rfl (g_and rfl (beq_of hc)); show _ = Value.bool x9; rw [q10, hc]; exact a2)) <|
      Obls.cons (Obl.plain rfl rfl fun R' w' hw hs hd => by have a0 : R' 23 = .bool x9 := hd 0 _ _ _ rfl rfl rfl rfl rfl; exact of_move a0) <|
      Obls.cons (Obl.grd 16 false _ _ _ rfl rfl rfl rfl rfl (by kernel_rfl) fun hg R' w' hw hs hd => by have a0 : R' 2 = .int .i64 p2 := (hs 2 rfl).trans h2; exact of_move a0) <|
      Obls.cons (Obl.grd 16 false _ _ _ rfl rfl rfl rfl rfl (by kernel_rfl) fun hg R' w' hw hs hd => by have a0 : R' 25 = .int .i64 p2 := hd 0 _ _ _ rfl rfl rfl rfl hg; exact of_call Try.call83 (M_impl_isThreshold_ok (q12 hg) (hA.fr hw.size) a0)) <|
      Obls.cons (Obl.grd 16 false _ _ _ rfl rfl rfl rfl rfl (by kernel_rfl) fun hg R' w' hw hs hd => by have a0 : R' 26 = .bool x11 := hd 0 _ _ _ rfl rfl rfl rfl hg; exact of_not a0) <|
      Obls.cons (Obl.plain rfl rfl fun R' w' hw hs hd => by have a0 : R' 24 = .bool x9 := hd 0 _ _ _ rfl rfl rfl rfl rfl; exact of_pick x9 a0 (fun hc => by show _ = Value.bool x13; rw [q14, hc]; exact rfl) (fun hc => by have a2 : R' 27 = .bool (!x11) := hd 1 _ _ _ rfl rfl rfl rfl (g_and rfl (beq_of hc)); show _ = Value.bool x13; rw [q14, hc]; exact a2)) <|
      Obls.nil
  intro R w hw hs hF'
  replace h0 : R 0 = v0 := (hs 0 rfl).trans h0
  replace h1 : R 1 = v1 := (hs 1 rfl).trans h1
  replace h2 : R 2 = .int .i64 p2 := (hs 2 rfl).trans h2
  have h28 : R 28 = .bool x13 := hF' 20 _ _ rfl rfl rfl
  replace f_v0 := f_v0.fr hw
  replace f_v1 := f_v1.fr hw
  replace hA := hA.fr hw.size
  replace hF := hF.trans hw
  clear hs hF' hw
  refine seqR_nil ?_
  refine HT.cond x13 h28 (fun c15 => ?_) (fun c15 => ?_)
  · have hr := cnd_t c15 hr
    refine HT.seq ?_
    refine HT.text (l := ⟨_, true, .raw (.bool false)⟩ :: []) (tl := []) (by kernel_rfl) (by kernel_rfl) (by kernel_rfl) ?_ ?_
    · exact
        Obls.cons (Obl.plain rfl rfl fun R' w' hw hs hd => by exact of_assign rfl) <|
        Obls.nil
    intro R w hw hs hF'
    have h6 : R 6 = .bool false := hF' 0 _ _ rfl rfl rfl
    replace hA := hA.fr hw.size
    replace hF := hF.trans hw
    clear hs hF' hw
    refine seqR_nil ?_
    refine HT.ret ?_
    obtain rfl := Option.some.inj hr
    exact ⟨.inr rfl, [R 6], ⟨rfl, trivial⟩, h6, hF⟩
  · have hr := cnd_f c15 hr
    refine HT.skip ?_
    refine HT.seq ?_
    obtain ⟨x16, q17, hr⟩ := cl_some hr
    refine HT.text (l := ⟨_, true, .raw v0⟩ :: ⟨_, true, .raw v1⟩ :: ⟨_, true, .raw (.int .i64 x16)⟩ :: ⟨_, true, .raw (.int .i64 x16)⟩ :: []) (tl := []) (by kernel_rfl) (by kernel_rfl) (by kernel_rfl) ?_ ?_
    · exact
        Obls.cons (Obl.plain rfl rfl fun R' w' hw hs hd => by have a0 : R' 0 = v0 := (hs 0 rfl).trans h0; exact of_move a0) <|
        Obls.cons (Obl.plain rfl rfl fun R' w' hw hs hd => by have a0 : R' 1 = v1 := (hs 1 rfl).trans h1; exact of_move a0) <|
        Obls.cons (Obl.plain rfl rfl fun R' w' hw hs hd => by have a0 : R' 29 = v0 := hd 0 _ _ _ rfl rfl rfl rfl rfl; have ra0 := (f_v0.fr hw).eq a0; have a1 : R' 30 = v1 := hd 1 _ _ _ rfl rfl rfl rfl rfl; have ra1 := (f_v1.fr hw).eq a1; exact of_call Try.call125 (M_impl_overlap_ok (q17 rfl) (hA.fr hw.size) ra0 ra1)) <|
        Obls.cons (Obl.plain rfl rfl fun R' w' hw hs hd => by have a0 : R' 31 = .int .i64 x16 := hd 0 _ _ _ rfl rfl rfl rfl rfl; exact of_assign a0) <|
        Obls.nil
    intro R w hw hs hF'
    replace h0 : R 0 = v0 := (hs 0 rfl).trans h0
    replace h1 : R 1 = v1 := (hs 1 rfl).trans h1
    replace h2 : R 2 = .int .i64 p2 := (hs 2 rfl).trans h2
    have h7 : R 7 = .int .i64 x16 := hF' 3 _ _ rfl rfl rfl
    replace f_v0 := f_v0.fr hw
    replace f_v1 := f_v1.fr hw
    replace hA := hA.fr hw.size
    replace hF := hF.trans hw
    clear hs hF' hw
    refine seqR_nil ?_
    refine HT.seq ?_
    obtain ⟨e18, hr⟩ := ck_some hr
    obtain ⟨e19, hr⟩ := ck_some hr
    obtain ⟨e20, hr⟩ := ck_some hr
    obtain ⟨e21, hr⟩ := ck_some hr
    refine HT.text (l := ⟨_, true, .raw (.int .i64 x16)⟩ :: ⟨_, true, .raw (.int .i64 ((1000 : Int) * x16))⟩ :: ⟨_, true, .raw (.int .i64 p2)⟩ :: ⟨_, true, .raw v0⟩ :: ⟨_, true, .raw (.int .i64 (p0.length : Int))⟩ :: ⟨_, true, .raw v1⟩ :: ⟨_, true, .raw (.int .i64 (p1.length : Int))⟩ :: ⟨_, true, .raw (.int .i64 ((p0.length : Int) + (p1.length : Int)))⟩ :: ⟨_, true, .raw (.int .i64 x16)⟩ :: ⟨_, true, .raw (.int .i64 (((p0.length : Int) + (p1.length : Int)) - x16))⟩ :: ⟨_, true, .raw (.int .i64 (p2 * (((p0.length : Int) + (p1.length : Int)) - x16)))⟩ :: ⟨_, true, .raw (.bool (decide ((p2 * (((p0.length : Int) + (p1.length : Int)) - x16)) ≤ ((1000 : Int) * x16))))⟩ :: ⟨_, true, .raw (.bool (decide ((p2 * (((p0.length : Int) + (p1.length : Int)) - x16)) ≤ ((1000 : Int) * x16))))⟩ :: []) (tl := []) (by kernel_rfl) (by kernel_rfl) (by kernel_rfl) ?_ ?_
    · exact
        Obls.cons (Obl.plain rfl rfl fun R' w' hw hs hd => by have a0 : R' 7 = .int .i64 x16 := (hs 7 rfl).trans h7; exact of_move a0) <|
        Obls.cons (Obl.plain rfl rfl fun R' w' hw hs hd => by have a1 : R' 32 = .int .i64 x16 := hd 0 _ _ _ rfl rfl rfl rfl rfl; exact of_mul rfl a1 e18) <|
        Obls.cons (Obl.plain rfl rfl fun R' w' hw hs hd => by have a0 : R' 2 = .int .i64 p2 := (hs 2 rfl).trans h2; exact of_move a0) <|
        Obls.cons (Obl.plain rfl rfl fun R' w' hw hs hd => by have a0 : R' 0 = v0 := (hs 0 rfl).trans h0; exact of_move a0) <|
        Obls.cons (Obl.plain rfl rfl fun R' w' hw hs hd => by have a0 : R' 35 = v0 := hd 0 _ _ _ rfl rfl rfl rfl rfl; have ra0 := (f_v0.fr hw).eq a0; exact of_len_sl (aT := #[]) ra0 Try.underlying23) <|
        Obls.cons (Obl.plain rfl rfl fun R' w' hw hs hd => by have a0 : R' 1 = v1 := (hs 1 rfl).trans h1; exact of_move a0) <|
        Obls.cons (Obl.plain rfl rfl fun R' w' hw hs hd => by have a0 : R' 37 = v1 := hd 0 _ _ _ rfl rfl rfl rfl rfl; have ra0 := (f_v1.fr hw).eq a0; exact of_len_sl (aT := #[]) ra0 Try.underlying23) <|
        Obls.cons (Obl.plain rfl rfl fun R' w' hw hs hd => by have a0 : R' 36 = .int .i64 (p0.length : Int) := hd 0 _ _ _ rfl rfl rfl rfl rfl; have a1 : R' 38 = .int .i64 (p1.length : Int) := hd 1 _ _ _ rfl rfl rfl rfl rfl; exact of_add a0 a1 e19) <|
        Obls.cons (Obl.plain rfl rfl fun R' w' hw hs hd => by have a0 : R' 7 = .int .i64 x16 := (hs 7 rfl).trans h7; exact of_move a0) <|
        Obls.cons (Obl.plain rfl rfl fun R' w' hw hs hd => by have a0 : R' 39 = .int .i64 ((p0.length : Int) + (p1.length : Int)) := hd 0 _ _ _ rfl rfl rfl rfl rfl; have a1 : R' 40 = .int .i64 x16 := hd 1 _ _ _ rfl rfl rfl rfl rfl; exact of_sub a0 a1 e20) <|
        Obls.cons (Obl.plain rfl rfl fun R' w' hw hs hd => by have a0 : R' 34 = .int .i64 p2 := hd 0 _ _ _ rfl rfl rfl rfl rfl; have a1 : R' 41 = .int .i64 (((p0.length : Int) + (p1.length : Int)) - x16) := hd 1 _ _ _ rfl rfl rfl rfl rfl; exact of_mul a0 a1 e21) <|
        Obls.cons (Obl.plain rfl rfl fun R' w' hw hs hd => by have a0 : R' 33 = .int .i64 ((1000 : Int) * x16) := hd 0 _ _ _ rfl rfl rfl rfl rfl; have a1 : R' 42 = .int .i64 (p2 * (((p0.length : Int) + (p1.length : Int)) - x16)) := hd 1 _ _ _ rfl rfl rfl rfl rfl; exact of_geq a0 a1) <|
        Obls.cons (Obl.plain rfl rfl fun R' w' hw hs hd => by have a0 : R' 43 = .bool (decide ((p2 * (((p0.length : Int) + (p1.length : Int)) - x16)) ≤ ((1000 : Int) * x16))) := hd 0 _ _ _ rfl rfl rfl rfl rfl; exact of_assign a0) <|
        Obls.nil
    intro R w hw hs hF'
    have h6 : R 6 = .bool (decide ((p2 * (((p0.length : Int) + (p1.length : Int)) - x16)) ≤ ((1000 : Int) * x16))) := hF' 12 _ _ rfl rfl rfl
    replace hA := hA.fr hw.size
    replace hF := hF.trans hw
    clear hs hF' hw
    refine seqR_nil ?_
    refine HT.ret ?_
    obtain rfl := Option.some.inj hr
    exact ⟨.inr rfl, [R 6], ⟨rfl, trivial⟩, h6, hF⟩
end Go.Proofs.Ytfcocbokgfmjfaa
