/- Printed by dec.py: plain functions and the proofs that the code computes them. No statement of the seat is proved here. -/
import Derived.Test.YtjfhlhhobpdneaaV2
namespace Go.Proofs.Ytjfhlhhobpdneaa
open Go.RowKit
set_option linter.unusedVariables false
def M_impl_IsValidDiagram_L0 (fu : Nat) (p0 : T_impl_Diagram) : Nat → Int → Option (Ex Bool Unit)
  | 0, _ => none
  | k + 1, y12 =>
    bif (decide (y12 < (p0.2.length : Int))) then (
      ck (inR y12 p0.2.length) <|
      cl true (M_impl_isFeature fu ((gtD p0.2 y12).1)) fun x18 =>
      cl (true && ((!x18) == false)) (M_impl_isThreshold fu ((gtD p0.2 y12).2.1)) fun x20 =>
      bd ((!x18) || (!x20)) fun x22 =>
      bd (x22 || (((gtD p0.2 y12).2.2.1) == ((gtD p0.2 y12).2.2.2))) fun x24 =>
      ck (!(true && (x24 == false)) || subR 0 y12 p0.2.length) <|
      cl (true && (x24 == false)) (M_slices_Contains_impl_DiagramNode_impl_DiagramNode fu (subL p0.2 0 y12) (gtD p0.2 y12)) fun x27 =>
      bd (x24 || x27) fun x29 =>
      bif x29 then (
        some (Ex.ret false)
      ) else (
        cl true (M_impl_Diagram_isChild fu p0 y12 ((gtD p0.2 y12).2.2.1)) fun x32 =>
        cl (true && ((!x32) == false)) (M_impl_Diagram_isChild fu p0 y12 ((gtD p0.2 y12).2.2.2)) fun x34 =>
        bd ((!x32) || (!x34)) fun x36 =>
        bif x36 then (
          some (Ex.ret false)
        ) else (
          ck (i64B (y12 + (1 : Int))) <|
          M_impl_IsValidDiagram_L0 fu p0 k (y12 + (1 : Int))
        )
      )
    ) else (
      some (Ex.go ())
    )
def M_impl_IsValidDiagram (fu : Nat) (p0 : T_impl_Diagram) : Option Bool :=
  ck (!(true && ((decide ((200 : Int) < (p0.2.length : Int))) == false)) || i64B ((p0.2.length : Int) + (1 : Int))) <|
  cl (true && ((decide ((200 : Int) < (p0.2.length : Int))) == false)) (M_impl_within fu p0.1 (0 : Int) ((p0.2.length : Int) + (1 : Int))) fun x3 =>
  bd ((decide ((200 : Int) < (p0.2.length : Int))) || (!x3)) fun x5 =>
  bif x5 then (
    some false
  ) else (
    cl true (M_impl_IsValidDiagram_L0 fu p0 fu (0 : Int)) fun rl9 =>
    exM rl9 (fun r => some r) fun s11 =>
    some true
  )
set_option maxRecDepth 100000 in
set_option maxHeartbeats 4000000 in
theorem M_impl_IsValidDiagram_ok {fu : Nat} {A0 : Av} {p0 : T_impl_Diagram} {r : Bool} (hr : M_impl_IsValidDiagram fu p0 = some r) {w : World} {v0 : Value} (hA : AvOK A0 w) (h0 : Rep E_impl_Diagram A0 w v0 p0) :
    Calls Try.prog 25 #[v0] w fun e w' => ∃ v, e = .returned v ∧ (v = .bool r ∧ Fr w w') := by
  unfold M_impl_IsValidDiagram at hr
  obtain ⟨w0, hw0⟩ : ∃ w0, w0 = w := ⟨_, rfl⟩
  have hF : Fr w0 w := hw0 ▸ Fr.refl _
  have hA0 : ∀ b o, A0 b o → b < w0.heap.size := fun b o h => hw0 ▸ hA b o h
  have hA00 : AvOK A0 w0 := hA0
  rw [show Fr w = Fr w0 from hw0 ▸ rfl]
  clear hw0
  obtain ⟨A, hAe⟩ : ∃ A, A = A0 := ⟨_, rfl⟩
  have hAA : ∀ b o, A0 b o → A b o := fun b o h => hAe ▸ h
  replace hA : AvOK A w := hAe ▸ hA
  have hO : IniOK [] A w := IniOK.nil
  refine calls_of_HT2 [.tmp 2] Try.func25 Try.ntmps25 (by decide) rfl rfl (Nat.le_of_ble_eq_true rfl) ?_
  intro R hR
  have f_v0 : Rep E_impl_Diagram A w v0 p0 := hAe ▸ h0
  replace h0 : R 0 = v0 := hR 0 _ rfl
  clear hR hAe
  refine HT.seq ?_
  refine HT.textR [] (⟨_, true, none, some (.box w0.heap.size 43 E_impl_Diagram p0), true, fun A => .any⟩ :: ⟨_, true, none, none, true, fun A => .raw (.bool false)⟩ :: []) (by kernel_rfl) (by kernel_rfl) (Wf.mk' (by kernel_rfl) (UAll.cons ust_any (UAll.cons ust_raw (UAll.nil))) (by kernel_rfl) (by kernel_rfl)) hO hA ?_ ?_
  · exact
      OblsR.cons (OblR.made _ rfl rfl rfl rfl fun A' R' w' ho hd => by have a0 : R' 0 = v0 := (ho.old 0 rfl).trans h0; have ra0 := (f_v0.stp ho.stp).eq a0; exact made_box ra0 (Nat.le_trans hF.size ho.ch.size)) <|
      OblsR.cons (OblR.plain rfl rfl rfl rfl fun A' R' w' ho hd => by exact of_assign rfl) <|
      OblsR.nil
  intro done ρ A R w hdn hI
  obtain ⟨b1_0, e_b1_0⟩ := hI.boxv hdn 0 rfl rfl
  have h1 : R 1 = (.pointer (some ⟨b1_0, 0, none⟩)) := (hI.opvR hdn 0 0 rfl rfl rfl rfl rfl).symm.trans e_b1_0
  replace hAA := hI.low' hAA hA0 (hO.ge (trivial))
  replace hF : Fr w0 w := Below.trans hF (hI.ch.below hF.size (hO.ge (trivial)))
  replace hO : IniOK [((.pointer (some ⟨b1_0, 0, none⟩)), .box w0.heap.size 43 E_impl_Diagram p0)] A w := hI.left hdn [(0, (.pointer (some ⟨b1_0, 0, none⟩)), .box w0.heap.size 43 E_impl_Diagram p0)] ⟨rfl, rfl, e_b1_0, rfl, trivial⟩
  replace hA := hI.avok
  clear hI
  refine HT.seq ?_
  refine HT.seq ?_
  obtain ⟨e2, hr⟩ := ck_some hr
  obtain ⟨x3, q4, hr⟩ := cl_some hr
  obtain ⟨x5, q6, hr⟩ := bd_some hr
  refine HT.text (l := ⟨_, true, .raw (.pointer (some ⟨b1_0, 1, none⟩))⟩ :: ⟨_, true, .rep (eSl E_impl_DiagramNode) A p0.2⟩ :: ⟨_, true, .raw (.int .i64 (p0.2.length : Int))⟩ :: ⟨_, true, .raw (.bool (decide ((200 : Int) < (p0.2.length : Int))))⟩ :: ⟨_, true, .raw (.bool (decide ((200 : Int) < (p0.2.length : Int))))⟩ :: ⟨_, (true && ((decide ((200 : Int) < (p0.2.length : Int))) == false)), .raw (.pointer (some ⟨b1_0, 0, none⟩))⟩ :: ⟨_, (true && ((decide ((200 : Int) < (p0.2.length : Int))) == false)), .raw (.int .i64 p0.1)⟩ :: ⟨_, (true && ((decide ((200 : Int) < (p0.2.length : Int))) == false)), .raw (.pointer (some ⟨b1_0, 1, none⟩))⟩ :: ⟨_, (true && ((decide ((200 : Int) < (p0.2.length : Int))) == false)), .rep (eSl E_impl_DiagramNode) A p0.2⟩ :: ⟨_, (true && ((decide ((200 : Int) < (p0.2.length : Int))) == false)), .raw (.int .i64 (p0.2.length : Int))⟩ :: ⟨_, (true && ((decide ((200 : Int) < (p0.2.length : Int))) == false)), .raw (.int .i64 ((p0.2.length : Int) + (1 : Int)))⟩ :: ⟨_, (true && ((decide ((200 : Int) < (p0.2.length : Int))) == false)), .raw (.bool x3)⟩ :: ⟨_, (true && ((decide ((200 : Int) < (p0.2.length : Int))) == false)), .raw (.bool (!x3))⟩ :: ⟨_, true, .raw (.bool x5)⟩ :: []) (tl := []) (by kernel_rfl) (by kernel_rfl) (by kernel_rfl) ?_ ?_
  · exact
      Obls.cons (Obl.plain rfl rfl fun R' w' hw hs hd => by have a0 : R' 1 = (.pointer (some ⟨b1_0, 0, none⟩)) := (hs 1 rfl).trans h1; exact of_fieldAddr_raw a0 ff_43_1 Try.sizeOf41 (by decide) rfl) <|
      Obls.cons (Obl.plain rfl rfl fun R' w' hw hs hd => by have a0 : R' 5 = (.pointer (some ⟨b1_0, 1, none⟩)) := hd 0 _ _ _ rfl rfl rfl rfl rfl; exact (of_load_box ((hO.fr hw).ok 0 _ rfl).1 a0 fl_impl_Diagram_1 rfl Try.isAgg41 Try.sizeOf41)) <|
      Obls.cons (Obl.plain rfl rfl fun R' w' hw hs hd => by have a0 : Rep (eSl E_impl_DiagramNode) A w' (R' 6) p0.2 := hd 0 _ _ _ rfl rfl rfl rfl rfl; exact of_len_sl (aT := #[]) a0 Try.underlying41) <|
      Obls.cons (Obl.plain rfl rfl fun R' w' hw hs hd => by have a0 : R' 7 = .int .i64 (p0.2.length : Int) := hd 0 _ _ _ rfl rfl rfl rfl rfl; exact of_gtr a0 rfl) <|
      Obls.cons (Obl.plain rfl rfl fun R' w' hw hs hd => by have a0 : R' 8 = .bool (decide ((200 : Int) < (p0.2.length : Int))) := hd 0 _ _ _ rfl rfl rfl rfl rfl; exact of_move a0) <|
      Obls.cons (Obl.grd 4 false _ _ _ rfl rfl rfl rfl rfl (by kernel_rfl) fun hg R' w' hw hs hd => by have a0 : R' 1 = (.pointer (some ⟨b1_0, 0, none⟩)) := (hs 1 rfl).trans h1; exact of_fieldAddr_raw a0 ff_43_0 Try.sizeOf3 (by decide) rfl) <|
      Obls.cons (Obl.grd 4 false _ _ _ rfl rfl rfl rfl rfl (by kernel_rfl) fun hg R' w' hw hs hd => by have a0 : R' 10 = (.pointer (some ⟨b1_0, 0, none⟩)) := hd 0 _ _ _ rfl rfl rfl rfl hg; exact OpF.int (of_load_box ((hO.fr hw).ok 0 _ rfl).1 a0 fl_impl_Diagram_0 rfl Try.isAgg3 Try.sizeOf3)) <|
      Obls.cons (Obl.grd 4 false _ _ _ rfl rfl rfl rfl rfl (by kernel_rfl) fun hg R' w' hw hs hd => by have a0 : R' 1 = (.pointer (some ⟨b1_0, 0, none⟩)) := (hs 1 rfl).trans h1; exact of_fieldAddr_raw a0 ff_43_1 Try.sizeOf41 (by decide) rfl) <|
      Obls.cons (Obl.grd 4 false _ _ _ rfl rfl rfl rfl rfl (by kernel_rfl) fun hg R' w' hw hs hd => by have a0 : R' 12 = (.pointer (some ⟨b1_0, 1, none⟩)) := hd 0 _ _ _ rfl rfl rfl rfl hg; exact (of_load_box ((hO.fr hw).ok 0 _ rfl).1 a0 fl_impl_Diagram_1 rfl Try.isAgg41 Try.sizeOf41)) <|
      Obls.cons (Obl.grd 4 false _ _ _ rfl rfl rfl rfl rfl (by kernel_rfl) fun hg R' w' hw hs hd => by have a0 : Rep (eSl E_impl_DiagramNode) A w' (R' 13) p0.2 := hd 0 _ _ _ rfl rfl rfl rfl hg; exact of_len_sl (aT := #[]) a0 Try.underlying41) <|
      Obls.cons (Obl.grd 4 false _ _ _ rfl rfl rfl rfl rfl (by kernel_rfl) fun hg R' w' hw hs hd => by have a0 : R' 14 = .int .i64 (p0.2.length : Int) := hd 0 _ _ _ rfl rfl rfl rfl hg; exact of_add a0 rfl (gd e2 hg)) <|
      Obls.cons (Obl.grd 4 false _ _ _ rfl rfl rfl rfl rfl (by kernel_rfl) fun hg R' w' hw hs hd => by have a0 : R' 11 = .int .i64 p0.1 := hd 0 _ _ _ rfl rfl rfl rfl hg; have a2 : R' 15 = .int .i64 ((p0.2.length : Int) + (1 : Int)) := hd 1 _ _ _ rfl rfl rfl rfl hg; exact of_call Try.call73 (M_impl_within_ok (q4 hg) (hA.fr hw.size) a0 rfl a2)) <|
      Obls.cons (Obl.grd 4 false _ _ _ rfl rfl rfl rfl rfl (by kernel_rfl) fun hg R' w' hw hs hd => by have a0 : R' 16 = .bool x3 := hd 0 _ _ _ rfl rfl rfl rfl hg; exact of_not a0) <|
      Obls.cons (Obl.plain rfl rfl fun R' w' hw hs hd => by have a0 : R' 9 = .bool (decide ((200 : Int) < (p0.2.length : Int))) := hd 0 _ _ _ rfl rfl rfl rfl rfl; exact of_pick (decide ((200 : Int) < (p0.2.length : Int))) a0 (fun hc => by show _ = Value.bool x5; rw [q6, hc]; exact rfl) (fun hc => by have a2 : R' 17 = .bool (!x3) := hd 1 _ _ _ rfl rfl rfl rfl (g_and rfl (beq_of hc)); show _ = Value.bool x5; rw [q6, hc]; exact a2)) <|
      Obls.nil
  intro R w hw hs hF'
  replace h1 : R 1 = (.pointer (some ⟨b1_0, 0, none⟩)) := (hs 1 rfl).trans h1
  have h18 : R 18 = .bool x5 := hF' 13 _ _ rfl rfl rfl
  replace hO := hO.fr hw
  replace hA := hA.fr hw.size
  replace hF := hF.trans hw
  clear hs hF' hw
  refine seqR_nil ?_
  refine HT.cond x5 h18 (fun c7 => ?_) (fun c7 => ?_)
  · have hr := cnd_t c7 hr
    refine HT.seq ?_
    refine HT.text (l := ⟨_, true, .raw (.bool false)⟩ :: []) (tl := []) (by kernel_rfl) (by kernel_rfl) (by kernel_rfl) ?_ ?_
    · exact
        Obls.cons (Obl.plain rfl rfl fun R' w' hw hs hd => by exact of_assign rfl) <|
        Obls.nil
    intro R w hw hs hF'
    have h2 : R 2 = .bool false := hF' 0 _ _ rfl rfl rfl
    replace hO := hO.fr hw
    replace hO : IniOK [] A w := hO.sub [] trivial
    replace hA := hA.fr hw.size
    replace hF := hF.trans hw
    clear hs hF' hw
    refine seqR_nil ?_
    refine HT.ret ?_
    obtain rfl := Option.some.inj hr
    exact ⟨.inr rfl, [R 2], ⟨rfl, trivial⟩, h2, hF⟩
  · have hr := cnd_f c7 hr
    refine HT.skip ?_
    refine HT.seq ?_
    refine HT.seq ?_
    refine HT.text (l := ⟨_, true, .raw (.pointer (some ⟨b1_0, 1, none⟩))⟩ :: ⟨_, true, .rep (eSl E_impl_DiagramNode) A p0.2⟩ :: ⟨_, true, .raw (.int .i64 (p0.2.length : Int))⟩ :: ⟨_, true, .raw (.int .i64 (0 : Int))⟩ :: []) (tl := []) (by kernel_rfl) (by kernel_rfl) (by kernel_rfl) ?_ ?_
    · exact
        Obls.cons (Obl.plain rfl rfl fun R' w' hw hs hd => by have a0 : R' 1 = (.pointer (some ⟨b1_0, 0, none⟩)) := (hs 1 rfl).trans h1; exact of_fieldAddr_raw a0 ff_43_1 Try.sizeOf41 (by decide) rfl) <|
        Obls.cons (Obl.plain rfl rfl fun R' w' hw hs hd => by have a0 : R' 19 = (.pointer (some ⟨b1_0, 1, none⟩)) := hd 0 _ _ _ rfl rfl rfl rfl rfl; exact (of_load_box ((hO.fr hw).ok 0 _ rfl).1 a0 fl_impl_Diagram_1 rfl Try.isAgg41 Try.sizeOf41)) <|
        Obls.cons (Obl.plain rfl rfl fun R' w' hw hs hd => by have a0 : Rep (eSl E_impl_DiagramNode) A w' (R' 20) p0.2 := hd 0 _ _ _ rfl rfl rfl rfl rfl; exact of_len_sl (aT := #[]) a0 Try.underlying41) <|
        Obls.cons (Obl.plain rfl rfl fun R' w' hw hs hd => by exact of_move rfl) <|
        Obls.nil
    intro R w hw hs hF'
    replace h1 : R 1 = (.pointer (some ⟨b1_0, 0, none⟩)) := (hs 1 rfl).trans h1
    obtain ⟨u8, h20, f_u8⟩ : ∃ u, R 20 = u ∧ Rep (eSl E_impl_DiagramNode) A w u p0.2 := ⟨_, rfl, hF' 1 _ _ rfl rfl rfl⟩
    have h21 : R 21 = .int .i64 (p0.2.length : Int) := hF' 2 _ _ rfl rfl rfl
    have h22 : R 22 = .int .i64 (0 : Int) := hF' 3 _ _ rfl rfl rfl
    replace hO := hO.fr hw
    replace hA := hA.fr hw.size
    replace hF := hF.trans hw
    clear hs hF' hw
    refine seqR_nil ?_
    obtain ⟨rl9, q10, hr⟩ := cl_some hr
    replace q10 := q10 rfl
    refine HT.cut0 (fun R w => ∃ A : Av, ∃ (s11 : Unit), rl9 = Ex.go s11 ∧ AvOK A w ∧ Fr w0 w ∧ (∀ b o, A0 b o → A b o) ∧ IniOK [] A w) ?_ ?_
    · refine HT.block ?_
      refine HT.loop (fun k R w => ∃ A : Av, ∃ (y12 : Int), M_impl_IsValidDiagram_L0 fu p0 k y12 = some rl9 ∧ AvOK A w ∧ Fr w0 w ∧ (∀ b o, A0 b o → A b o) ∧ IniOK [((.pointer (some ⟨b1_0, 0, none⟩)), .box w0.heap.size 43 E_impl_Diagram p0)] A w ∧ R 1 = (.pointer (some ⟨b1_0, 0, none⟩)) ∧ R 20 = u8 ∧ R 21 = .int .i64 (p0.2.length : Int) ∧ R 22 = .int .i64 y12 ∧ Rep (eSl E_impl_DiagramNode) A w u8 p0.2) fu ⟨_, _, q10, hA, hF, hAA, hO, h1, h20, h21, h22, f_u8⟩ ?_
      have hr0 := hr; clear hr q10
      rintro k R w ⟨A, y12, hr, hA, hF, hAA, hO, h1, h20, h21, h22, f_u8⟩
      rcases k with _ | k
      · cases (show none = some _ from hr)
      rw [M_impl_IsValidDiagram_L0] at hr
      refine HT.seq ?_
      refine HT.text (l := ⟨_, true, .raw (.bool (decide (y12 < (p0.2.length : Int))))⟩ :: []) (tl := []) (by kernel_rfl) (by kernel_rfl) (by kernel_rfl) ?_ ?_
      · exact
          Obls.cons (Obl.plain rfl rfl fun R' w' hw hs hd => by have a0 : R' 22 = .int .i64 y12 := (hs 22 rfl).trans h22; have a1 : R' 21 = .int .i64 (p0.2.length : Int) := (hs 21 rfl).trans h21; exact of_lss a0 a1) <|
          Obls.nil
      intro R w hw hs hF'
      replace h1 : R 1 = (.pointer (some ⟨b1_0, 0, none⟩)) := (hs 1 rfl).trans h1
      replace h20 : R 20 = u8 := (hs 20 rfl).trans h20
      replace h21 : R 21 = .int .i64 (p0.2.length : Int) := (hs 21 rfl).trans h21
      replace h22 : R 22 = .int .i64 y12 := (hs 22 rfl).trans h22
      have h23 : R 23 = .bool (decide (y12 < (p0.2.length : Int))) := hF' 0 _ _ rfl rfl rfl
      replace f_u8 := f_u8.fr hw
      replace hO := hO.fr hw
      replace hA := hA.fr hw.size
      replace hF := hF.trans hw
      clear hs hF' hw
      refine seqR_nil ?_
      refine HT.seq ?_
      refine HT.cond (decide (y12 < (p0.2.length : Int))) h23 (fun c13 => ?_) (fun c13 => ?_)
      · have hr := cnd_t c13 hr
        refine HT.skip ?_
        refine HT.seq ?_
        refine HT.block ?_
        refine HT.seq ?_
        obtain ⟨e14, hr⟩ := ck_some hr
        refine HT.textR [((.pointer (some ⟨b1_0, 0, none⟩)), .box w0.heap.size 43 E_impl_Diagram p0)] (⟨_, true, none, none, true, fun A => .raw (.int .i64 y12)⟩ :: ⟨_, true, none, none, true, fun A => .qtr E_impl_DiagramNode A (gtD p0.2 y12)⟩ :: ⟨_, true, none, none, true, fun A => .rep E_impl_DiagramNode A (gtD p0.2 y12)⟩ :: ⟨_, true, none, some (.box w0.heap.size 92 E_impl_DiagramNode ((0 : Int), ((0 : Int), ((0 : Int), (0 : Int))))), true, fun A => .any⟩ :: ⟨_, true, none, none, true, fun A => .raw (.int .i64 y12)⟩ :: ⟨_, true, some 4, some (.box w0.heap.size 92 E_impl_DiagramNode (gtD p0.2 y12)), false, fun A => .any⟩ :: []) (by kernel_rfl) (by kernel_rfl) (Wf.mk' (by kernel_rfl) (UAll.cons ust_raw (UAll.cons ust_qtr (UAll.cons ust_rep (UAll.cons ust_any (UAll.cons ust_raw (UAll.cons ust_any (UAll.nil))))))) (by kernel_rfl) (by kernel_rfl)) hO hA ?_ ?_
        · exact
            OblsR.cons (OblR.plain rfl rfl rfl rfl fun A' R' w' ho hd => by have a0 : R' 22 = .int .i64 y12 := (ho.old 22 rfl).trans h22; exact of_move a0) <|
            OblsR.cons (OblR.plain rfl rfl rfl rfl fun A' R' w' ho hd => by have a0 : R' 20 = u8 := (ho.old 20 rfl).trans h20; have a1 : R' 22 = .int .i64 y12 := (ho.old 22 rfl).trans h22; have ra0 := (f_u8.stp ho.stp).eq a0; exact of_indexAddr ra0 a1 Try.underlying41 Try.sizeOf92 e14) <|
            OblsR.cons (OblR.plain rfl rfl rfl rfl fun A' R' w' ho hd => by have a0 : QRep E_impl_DiagramNode A' w' (R' 25) (gtD p0.2 y12) := hd 0 _ _ _ rfl rfl rfl rfl rfl; exact (of_load a0.ptr Try.isAgg92 Try.sizeOf92)) <|
            OblsR.cons (OblR.made _ rfl rfl rfl rfl fun A' R' w' ho hd => by exact made_alloc Try.zeroValue92 (fun A w => rep_pr rep1_int (rep_pr rep1_int (rep_pr rep1_int rep1_int))) (Nat.le_trans hF.size ho.ch.size)) <|
            OblsR.cons (OblR.plain rfl rfl rfl rfl fun A' R' w' ho hd => by have a0 : R' 24 = .int .i64 y12 := hd 0 _ _ _ rfl rfl rfl rfl rfl; exact of_assign a0) <|
            OblsR.cons (OblR.took 4 _ _ rfl rfl rfl rfl rfl fun A' R' w' ho hd u hok hav hin hop => by have a1 : Rep E_impl_DiagramNode A' w' (R' 26) (gtD p0.2 y12) := hd 1 _ _ _ rfl rfl rfl rfl rfl; obtain ⟨b, hb, hB', hbx⟩ := hok; have hop' := hop _ _ rfl rfl rfl rfl; exact took_store a1 (hop'.symm.trans hb) hb ⟨b, hb, hB', hbx⟩ hav (FldS.id _) Try.sizeOf92 rfl) <|
            OblsR.nil
        intro done ρ A R w hdn hI
        replace h1 : R 1 = (.pointer (some ⟨b1_0, 0, none⟩)) := (hI.reg rfl).trans h1
        replace h20 : R 20 = u8 := (hI.reg rfl).trans h20
        replace h21 : R 21 = .int .i64 (p0.2.length : Int) := (hI.reg rfl).trans h21
        replace h22 : R 22 = .int .i64 y12 := (hI.reg rfl).trans h22
        have z15 := hI.inivR 0 rfl
        obtain ⟨b4_15, e_b4_15⟩ := hI.boxv hdn 6 rfl rfl
        have z17 := (hI.opnR hdn 6 5 rfl rfl rfl rfl rfl).symm.trans e_b4_15
        have h4 : R 4 = (.pointer (some ⟨b4_15, 0, none⟩)) := (hI.opvR hdn 4 3 rfl rfl rfl rfl rfl).symm.trans z17
        have h3 : R 3 = .int .i64 y12 := hI.fact hdn (i := 4) rfl rfl rfl
        replace f_u8 := f_u8.stp hI.stp
        replace hAA := hI.low' hAA hA0 (hO.ge (⟨rfl, trivial⟩))
        replace hF : Fr w0 w := Below.trans hF (hI.ch.below hF.size (hO.ge (⟨rfl, trivial⟩)))
        replace hO : IniOK [((.pointer (some ⟨b1_0, 0, none⟩)), .box w0.heap.size 43 E_impl_Diagram p0), ((.pointer (some ⟨b4_15, 0, none⟩)), .box w0.heap.size 92 E_impl_DiagramNode (gtD p0.2 y12))] A w := hI.left hdn [(0, (.pointer (some ⟨b1_0, 0, none⟩)), .box w0.heap.size 43 E_impl_Diagram p0), (6, (.pointer (some ⟨b4_15, 0, none⟩)), .box w0.heap.size 92 E_impl_DiagramNode (gtD p0.2 y12))] ⟨rfl, rfl, z15, rfl, ⟨rfl, rfl, e_b4_15, rfl, trivial⟩⟩
        replace hA := hI.avok
        clear hI
        refine HT.seq ?_
        refine HT.seq ?_
        obtain ⟨x18, q19, hr⟩ := cl_some hr
        obtain ⟨x20, q21, hr⟩ := cl_some hr
        obtain ⟨x22, q23, hr⟩ := bd_some hr
        obtain ⟨x24, q25, hr⟩ := bd_some hr
        obtain ⟨e26, hr⟩ := ck_some hr
        obtain ⟨x27, q28, hr⟩ := cl_some hr
        obtain ⟨x29, q30, hr⟩ := bd_some hr
        refine HT.draw (by kernel_rfl) (l := ⟨_, true, .raw (.pointer (some ⟨b4_15, 0, none⟩))⟩ :: ⟨_, true, .raw (.int .i64 ((gtD p0.2 y12).1))⟩ :: ⟨_, true, .raw (.bool x18)⟩ :: ⟨_, true, .raw (.bool (!x18))⟩ :: ⟨_, true, .raw (.bool (!x18))⟩ :: ⟨_, (true && ((!x18) == false)), .raw (.pointer (some ⟨b4_15, 1, none⟩))⟩ :: ⟨_, (true && ((!x18) == false)), .raw (.int .i64 ((gtD p0.2 y12).2.1))⟩ :: ⟨_, (true && ((!x18) == false)), .raw (.bool x20)⟩ :: ⟨_, (true && ((!x18) == false)), .raw (.bool (!x20))⟩ :: ⟨_, true, .raw (.bool x22)⟩ :: ⟨_, true, .raw (.bool x22)⟩ :: ⟨_, (true && (x22 == false)), .raw (.pointer (some ⟨b4_15, 2, none⟩))⟩ :: ⟨_, (true && (x22 == false)), .raw (.int .i64 ((gtD p0.2 y12).2.2.1))⟩ :: ⟨_, (true && (x22 == false)), .raw (.pointer (some ⟨b4_15, 3, none⟩))⟩ :: ⟨_, (true && (x22 == false)), .raw (.int .i64 ((gtD p0.2 y12).2.2.2))⟩ :: ⟨_, (true && (x22 == false)), .raw (.bool (((gtD p0.2 y12).2.2.1) == ((gtD p0.2 y12).2.2.2)))⟩ :: ⟨_, true, .raw (.bool x24)⟩ :: ⟨_, true, .raw (.bool x24)⟩ :: ⟨_, (true && (x24 == false)), .raw (.pointer (some ⟨b1_0, 1, none⟩))⟩ :: ⟨_, (true && (x24 == false)), .rep (eSl E_impl_DiagramNode) A p0.2⟩ :: ⟨_, (true && (x24 == false)), .raw (.int .i64 y12)⟩ :: ⟨_, (true && (x24 == false)), .rep (eSl E_impl_DiagramNode) A (subL p0.2 0 y12)⟩ :: ⟨_, (true && (x24 == false)), .rep E_impl_DiagramNode A (gtD p0.2 y12)⟩ :: ⟨_, (true && (x24 == false)), .raw (.bool x27)⟩ :: ⟨_, true, .raw (.bool x29)⟩ :: []) (tl := []) (by kernel_rfl) (by kernel_rfl) (by kernel_rfl) (by kernel_rfl) ?_ ?_
        · exact
            Obls.cons (Obl.plain rfl rfl fun R' w' hw hs hd => by have a0 : R' 4 = (.pointer (some ⟨b4_15, 0, none⟩)) := (hs 4 rfl).trans h4; exact of_fieldAddr_raw a0 ff_92_0 Try.sizeOf3 (by decide) rfl) <|
            Obls.cons (Obl.plain rfl rfl fun R' w' hw hs hd => by have a0 : R' 27 = (.pointer (some ⟨b4_15, 0, none⟩)) := hd 0 _ _ _ rfl rfl rfl rfl rfl; exact OpF.int (of_load_box ((hO.fr hw).ok 1 _ rfl).1 a0 fl_impl_DiagramNode_0 rfl Try.isAgg3 Try.sizeOf3)) <|
            Obls.cons (Obl.plain rfl rfl fun R' w' hw hs hd => by have a0 : R' 28 = .int .i64 ((gtD p0.2 y12).1) := hd 0 _ _ _ rfl rfl rfl rfl rfl; exact of_call Try.call74 (M_impl_isFeature_ok (q19 rfl) (hA.fr hw.size) a0)) <|
            Obls.cons (Obl.plain rfl rfl fun R' w' hw hs hd => by have a0 : R' 29 = .bool x18 := hd 0 _ _ _ rfl rfl rfl rfl rfl; exact of_not a0) <|
            Obls.cons (Obl.plain rfl rfl fun R' w' hw hs hd => by have a0 : R' 30 = .bool (!x18) := hd 0 _ _ _ rfl rfl rfl rfl rfl; exact of_move a0) <|
            Obls.cons (Obl.grd 4 false _ _ _ rfl rfl rfl rfl rfl (by kernel_rfl) fun hg R' w' hw hs hd => by have a0 : R' 4 = (.pointer (some ⟨b4_15, 0, none⟩)) := (hs 4 rfl).trans h4; exact of_fieldAddr_raw a0 ff_92_1 Try.sizeOf3 (by decide) rfl) <|
            Obls.cons (Obl.grd 4 false _ _ _ rfl rfl rfl rfl rfl (by kernel_rfl) fun hg R' w' hw hs hd => by have a0 : R' 32 = (.pointer (some ⟨b4_15, 1, none⟩)) := hd 0 _ _ _ rfl rfl rfl rfl hg; exact OpF.int (of_load_box ((hO.fr hw).ok 1 _ rfl).1 a0 fl_impl_DiagramNode_1 rfl Try.isAgg3 Try.sizeOf3)) <|
            Obls.cons (Obl.grd 4 false _ _ _ rfl rfl rfl rfl rfl (by kernel_rfl) fun hg R' w' hw hs hd => by have a0 : R' 33 = .int .i64 ((gtD p0.2 y12).2.1) := hd 0 _ _ _ rfl rfl rfl rfl hg; exact of_call Try.call75 (M_impl_isThreshold_ok (q21 hg) (hA.fr hw.size) a0)) <|
            Obls.cons (Obl.grd 4 false _ _ _ rfl rfl rfl rfl rfl (by kernel_rfl) fun hg R' w' hw hs hd => by have a0 : R' 34 = .bool x20 := hd 0 _ _ _ rfl rfl rfl rfl hg; exact of_not a0) <|
            Obls.cons (Obl.plain rfl rfl fun R' w' hw hs hd => by have a0 : R' 31 = .bool (!x18) := hd 0 _ _ _ rfl rfl rfl rfl rfl; exact of_pick (!x18) a0 (fun hc => by show _ = Value.bool x22; rw [q23, hc]; exact rfl) (fun hc => by have a2 : R' 35 = .bool (!x20) := hd 1 _ _ _ rfl rfl rfl rfl (g_and rfl (beq_of hc)); show _ = Value.bool x22; rw [q23, hc]; exact a2)) <|
            Obls.cons (Obl.plain rfl rfl fun R' w' hw hs hd => by have a0 : R' 36 = .bool x22 := hd 0 _ _ _ rfl rfl rfl rfl rfl; exact of_move a0) <|
            Obls.cons (Obl.grd 10 false _ _ _ rfl rfl rfl rfl rfl (by kernel_rfl) fun hg R' w' hw hs hd => by have a0 : R' 4 = (.pointer (some ⟨b4_15, 0, none⟩)) := (hs 4 rfl).trans h4; exact of_fieldAddr_raw a0 ff_92_2 Try.sizeOf3 (by decide) rfl) <|
            Obls.cons (Obl.grd 10 false _ _ _ rfl rfl rfl rfl rfl (by kernel_rfl) fun hg R' w' hw hs hd => by have a0 : R' 38 = (.pointer (some ⟨b4_15, 2, none⟩)) := hd 0 _ _ _ rfl rfl rfl rfl hg; exact OpF.int (of_load_box ((hO.fr hw).ok 1 _ rfl).1 a0 fl_impl_DiagramNode_2 rfl Try.isAgg3 Try.sizeOf3)) <|
            Obls.cons (Obl.grd 10 false _ _ _ rfl rfl rfl rfl rfl (by kernel_rfl) fun hg R' w' hw hs hd => by have a0 : R' 4 = (.pointer (some ⟨b4_15, 0, none⟩)) := (hs 4 rfl).trans h4; exact of_fieldAddr_raw a0 ff_92_3 Try.sizeOf3 (by decide) rfl) <|
            Obls.cons (Obl.grd 10 false _ _ _ rfl rfl rfl rfl rfl (by kernel_rfl) fun hg R' w' hw hs hd => by have a0 : R' 40 = (.pointer (some ⟨b4_15, 3, none⟩)) := hd 0 _ _ _ rfl rfl rfl rfl hg; exact OpF.int (of_load_box ((hO.fr hw).ok 1 _ rfl).1 a0 fl_impl_DiagramNode_3 rfl Try.isAgg3 Try.sizeOf3)) <|
            Obls.cons (Obl.grd 10 false _ _ _ rfl rfl rfl rfl rfl (by kernel_rfl) fun hg R' w' hw hs hd => by have a0 : R' 39 = .int .i64 ((gtD p0.2 y12).2.2.1) := hd 0 _ _ _ rfl rfl rfl rfl hg; have a1 : R' 41 = .int .i64 ((gtD p0.2 y12).2.2.2) := hd 1 _ _ _ rfl rfl rfl rfl hg; exact of_eql a0 a1) <|
            Obls.cons (Obl.plain rfl rfl fun R' w' hw hs hd => by have a0 : R' 37 = .bool x22 := hd 0 _ _ _ rfl rfl rfl rfl rfl; exact of_pick x22 a0 (fun hc => by show _ = Value.bool x24; rw [q25, hc]; exact rfl) (fun hc => by have a2 : R' 42 = .bool (((gtD p0.2 y12).2.2.1) == ((gtD p0.2 y12).2.2.2)) := hd 1 _ _ _ rfl rfl rfl rfl (g_and rfl (beq_of hc)); show _ = Value.bool x24; rw [q25, hc]; exact a2)) <|
            Obls.cons (Obl.plain rfl rfl fun R' w' hw hs hd => by have a0 : R' 43 = .bool x24 := hd 0 _ _ _ rfl rfl rfl rfl rfl; exact of_move a0) <|
            Obls.cons (Obl.grd 17 false _ _ _ rfl rfl rfl rfl rfl (by kernel_rfl) fun hg R' w' hw hs hd => by have a0 : R' 1 = (.pointer (some ⟨b1_0, 0, none⟩)) := (hs 1 rfl).trans h1; exact of_fieldAddr_raw a0 ff_43_1 Try.sizeOf41 (by decide) rfl) <|
            Obls.cons (Obl.grd 17 false _ _ _ rfl rfl rfl rfl rfl (by kernel_rfl) fun hg R' w' hw hs hd => by have a0 : R' 45 = (.pointer (some ⟨b1_0, 1, none⟩)) := hd 0 _ _ _ rfl rfl rfl rfl hg; exact (of_load_box ((hO.fr hw).ok 0 _ rfl).1 a0 fl_impl_Diagram_1 rfl Try.isAgg41 Try.sizeOf41)) <|
            Obls.cons (Obl.grd 17 false _ _ _ rfl rfl rfl rfl rfl (by kernel_rfl) fun hg R' w' hw hs hd => by have a0 : R' 3 = .int .i64 y12 := (hs 3 rfl).trans h3; exact of_move a0) <|
            Obls.cons (Obl.grd 17 false _ _ _ rfl rfl rfl rfl rfl (by kernel_rfl) fun hg R' w' hw hs hd => by have a0 : Rep (eSl E_impl_DiagramNode) A w' (R' 46) p0.2 := hd 0 _ _ _ rfl rfl rfl rfl hg; have a1 : R' 47 = .int .i64 y12 := hd 1 _ _ _ rfl rfl rfl rfl hg; exact of_slice_sl_hi a0 a1 Try.underlying41 Try.sizeOf92 (gd e26 hg)) <|
            Obls.cons (Obl.grd 17 false _ _ _ rfl rfl rfl rfl rfl (by kernel_rfl) fun hg R' w' hw hs hd => by have a0 : R' 4 = (.pointer (some ⟨b4_15, 0, none⟩)) := (hs 4 rfl).trans h4; exact (of_load_box ((hO.fr hw).ok 1 _ rfl).1 a0 (Fld.id _) rfl Try.isAgg92 Try.sizeOf92)) <|
            Obls.cons (Obl.grd 17 false _ _ _ rfl rfl rfl rfl rfl (by kernel_rfl) fun hg R' w' hw hs hd => by have a0 : Rep (eSl E_impl_DiagramNode) A w' (R' 48) (subL p0.2 0 y12) := hd 0 _ _ _ rfl rfl rfl rfl hg; have a1 : Rep E_impl_DiagramNode A w' (R' 49) (gtD p0.2 y12) := hd 1 _ _ _ rfl rfl rfl rfl hg; exact of_call Try.call76 (M_slices_Contains_impl_DiagramNode_impl_DiagramNode_ok (q28 hg) (hA.fr hw.size) a0 a1)) <|
            Obls.cons (Obl.plain rfl rfl fun R' w' hw hs hd => by have a0 : R' 44 = .bool x24 := hd 0 _ _ _ rfl rfl rfl rfl rfl; exact of_pick x24 a0 (fun hc => by show _ = Value.bool x29; rw [q30, hc]; exact rfl) (fun hc => by have a2 : R' 50 = .bool x27 := hd 1 _ _ _ rfl rfl rfl rfl (g_and rfl (beq_of hc)); show _ = Value.bool x29; rw [q30, hc]; exact a2)) <|
            Obls.nil
        intro R w hw hs hF'
        replace h1 : R 1 = (.pointer (some ⟨b1_0, 0, none⟩)) := (hs 1 rfl).trans h1
        replace h3 : R 3 = .int .i64 y12 := (hs 3 rfl).trans h3
        replace h4 : R 4 = (.pointer (some ⟨b4_15, 0, none⟩)) := (hs 4 rfl).trans h4
        replace h20 : R 20 = u8 := (hs 20 rfl).trans h20
        replace h21 : R 21 = .int .i64 (p0.2.length : Int) := (hs 21 rfl).trans h21
        replace h22 : R 22 = .int .i64 y12 := (hs 22 rfl).trans h22
        have h51 : R 51 = .bool x29 := hF' 24 _ _ rfl rfl rfl
        replace f_u8 := f_u8.fr hw
        replace hO := hO.fr hw
        replace hA := hA.fr hw.size
        replace hF := hF.trans hw
        clear hs hF' hw
        refine seqR_nil ?_
        refine HT.cond x29 h51 (fun c31 => ?_) (fun c31 => ?_)
        · have hr := cnd_t c31 hr
          refine HT.seq ?_
          refine HT.text (l := ⟨_, true, .raw (.bool false)⟩ :: []) (tl := []) (by kernel_rfl) (by kernel_rfl) (by kernel_rfl) ?_ ?_
          · exact
              Obls.cons (Obl.plain rfl rfl fun R' w' hw hs hd => by exact of_assign rfl) <|
              Obls.nil
          intro R w hw hs hF'
          have h2 : R 2 = .bool false := hF' 0 _ _ rfl rfl rfl
          replace hO := hO.fr hw
          replace hO : IniOK [] A w := hO.sub [] trivial
          replace hA := hA.fr hw.size
          replace hF := hF.trans hw
          clear hs hF' hw
          refine seqR_nil ?_
          refine HT.ret ?_
          obtain rfl := Option.some.inj hr
          have hr := hr0
          replace hr : some _ = some _ := hr
          obtain rfl := Option.some.inj hr
          exact ⟨.inr rfl, [R 2], ⟨rfl, trivial⟩, h2, hF⟩
        · have hr := cnd_f c31 hr
          refine HT.skip ?_
          refine HT.seq ?_
          obtain ⟨x32, q33, hr⟩ := cl_some hr
          obtain ⟨x34, q35, hr⟩ := cl_some hr
          obtain ⟨x36, q37, hr⟩ := bd_some hr
          refine HT.text (l := ⟨_, true, .rep E_impl_Diagram A p0⟩ :: ⟨_, true, .raw (.int .i64 y12)⟩ :: ⟨_, true, .raw (.pointer (some ⟨b4_15, 2, none⟩))⟩ :: ⟨_, true, .raw (.int .i64 ((gtD p0.2 y12).2.2.1))⟩ :: ⟨_, true, .raw (.bool x32)⟩ :: ⟨_, true, .raw (.bool (!x32))⟩ :: ⟨_, true, .raw (.bool (!x32))⟩ :: ⟨_, (true && ((!x32) == false)), .rep E_impl_Diagram A p0⟩ :: ⟨_, (true && ((!x32) == false)), .raw (.int .i64 y12)⟩ :: ⟨_, (true && ((!x32) == false)), .raw (.pointer (some ⟨b4_15, 3, none⟩))⟩ :: ⟨_, (true && ((!x32) == false)), .raw (.int .i64 ((gtD p0.2 y12).2.2.2))⟩ :: ⟨_, (true && ((!x32) == false)), .raw (.bool x34)⟩ :: ⟨_, (true && ((!x32) == false)), .raw (.bool (!x34))⟩ :: ⟨_, true, .raw (.bool x36)⟩ :: []) (tl := []) (by kernel_rfl) (by kernel_rfl) (by kernel_rfl) ?_ ?_
          · exact
              Obls.cons (Obl.plain rfl rfl fun R' w' hw hs hd => by have a0 : R' 1 = (.pointer (some ⟨b1_0, 0, none⟩)) := (hs 1 rfl).trans h1; exact (of_load_box ((hO.fr hw).ok 0 _ rfl).1 a0 (Fld.id _) rfl Try.isAgg43 Try.sizeOf43)) <|
              Obls.cons (Obl.plain rfl rfl fun R' w' hw hs hd => by have a0 : R' 3 = .int .i64 y12 := (hs 3 rfl).trans h3; exact of_move a0) <|
              Obls.cons (Obl.plain rfl rfl fun R' w' hw hs hd => by have a0 : R' 4 = (.pointer (some ⟨b4_15, 0, none⟩)) := (hs 4 rfl).trans h4; exact of_fieldAddr_raw a0 ff_92_2 Try.sizeOf3 (by decide) rfl) <|
              Obls.cons (Obl.plain rfl rfl fun R' w' hw hs hd => by have a0 : R' 54 = (.pointer (some ⟨b4_15, 2, none⟩)) := hd 0 _ _ _ rfl rfl rfl rfl rfl; exact OpF.int (of_load_box ((hO.fr hw).ok 1 _ rfl).1 a0 fl_impl_DiagramNode_2 rfl Try.isAgg3 Try.sizeOf3)) <|
              Obls.cons (Obl.plain rfl rfl fun R' w' hw hs hd => by have a0 : Rep E_impl_Diagram A w' (R' 52) p0 := hd 0 _ _ _ rfl rfl rfl rfl rfl; have a1 : R' 53 = .int .i64 y12 := hd 1 _ _ _ rfl rfl rfl rfl rfl; have a2 : R' 55 = .int .i64 ((gtD p0.2 y12).2.2.1) := hd 2 _ _ _ rfl rfl rfl rfl rfl; exact of_call Try.call77 (M_impl_Diagram_isChild_ok (q33 rfl) (hA.fr hw.size) a0 a1 a2)) <|
              Obls.cons (Obl.plain rfl rfl fun R' w' hw hs hd => by have a0 : R' 56 = .bool x32 := hd 0 _ _ _ rfl rfl rfl rfl rfl; exact of_not a0) <|
              Obls.cons (Obl.plain rfl rfl fun R' w' hw hs hd => by have a0 : R' 57 = .bool (!x32) := hd 0 _ _ _ rfl rfl rfl rfl rfl; exact of_move a0) <|
              Obls.cons (Obl.grd 6 false _ _ _ rfl rfl rfl rfl rfl (by kernel_rfl) fun hg R' w' hw hs hd => by have a0 : R' 1 = (.pointer (some ⟨b1_0, 0, none⟩)) := (hs 1 rfl).trans h1; exact (of_load_box ((hO.fr hw).ok 0 _ rfl).1 a0 (Fld.id _) rfl Try.isAgg43 Try.sizeOf43)) <|
              Obls.cons (Obl.grd 6 false _ _ _ rfl rfl rfl rfl rfl (by kernel_rfl) fun hg R' w' hw hs hd => by have a0 : R' 3 = .int .i64 y12 := (hs 3 rfl).trans h3; exact of_move a0) <|
              Obls.cons (Obl.grd 6 false _ _ _ rfl rfl rfl rfl rfl (by kernel_rfl) fun hg R' w' hw hs hd => by have a0 : R' 4 = (.pointer (some ⟨b4_15, 0, none⟩)) := (hs 4 rfl).trans h4; exact of_fieldAddr_raw a0 ff_92_3 Try.sizeOf3 (by decide) rfl) <|
              Obls.cons (Obl.grd 6 false _ _ _ rfl rfl rfl rfl rfl (by kernel_rfl) fun hg R' w' hw hs hd => by have a0 : R' 61 = (.pointer (some ⟨b4_15, 3, none⟩)) := hd 0 _ _ _ rfl rfl rfl rfl hg; exact OpF.int (of_load_box ((hO.fr hw).ok 1 _ rfl).1 a0 fl_impl_DiagramNode_3 rfl Try.isAgg3 Try.sizeOf3)) <|
              Obls.cons (Obl.grd 6 false _ _ _ rfl rfl rfl rfl rfl (by kernel_rfl) fun hg R' w' hw hs hd => by have a0 : Rep E_impl_Diagram A w' (R' 59) p0 := hd 0 _ _ _ rfl rfl rfl rfl hg; have a1 : R' 60 = .int .i64 y12 := hd 1 _ _ _ rfl rfl rfl rfl hg; have a2 : R' 62 = .int .i64 ((gtD p0.2 y12).2.2.2) := hd 2 _ _ _ rfl rfl rfl rfl hg; exact of_call Try.call77 (M_impl_Diagram_isChild_ok (q35 hg) (hA.fr hw.size) a0 a1 a2)) <|
              Obls.cons (Obl.grd 6 false _ _ _ rfl rfl rfl rfl rfl (by kernel_rfl) fun hg R' w' hw hs hd => by have a0 : R' 63 = .bool x34 := hd 0 _ _ _ rfl rfl rfl rfl hg; exact of_not a0) <|
              Obls.cons (Obl.plain rfl rfl fun R' w' hw hs hd => by have a0 : R' 58 = .bool (!x32) := hd 0 _ _ _ rfl rfl rfl rfl rfl; exact of_pick (!x32) a0 (fun hc => by show _ = Value.bool x36; rw [q37, hc]; exact rfl) (fun hc => by have a2 : R' 64 = .bool (!x34) := hd 1 _ _ _ rfl rfl rfl rfl (g_and rfl (beq_of hc)); show _ = Value.bool x36; rw [q37, hc]; exact a2)) <|
              Obls.nil
          intro R w hw hs hF'
          replace h1 : R 1 = (.pointer (some ⟨b1_0, 0, none⟩)) := (hs 1 rfl).trans h1
          replace h20 : R 20 = u8 := (hs 20 rfl).trans h20
          replace h21 : R 21 = .int .i64 (p0.2.length : Int) := (hs 21 rfl).trans h21
          replace h22 : R 22 = .int .i64 y12 := (hs 22 rfl).trans h22
          have h65 : R 65 = .bool x36 := hF' 13 _ _ rfl rfl rfl
          replace f_u8 := f_u8.fr hw
          replace hO := hO.fr hw
          replace hO : IniOK [((.pointer (some ⟨b1_0, 0, none⟩)), .box w0.heap.size 43 E_impl_Diagram p0)] A w := hO.sub [(0, (.pointer (some ⟨b1_0, 0, none⟩)), .box w0.heap.size 43 E_impl_Diagram p0)] ⟨rfl, rfl, trivial⟩
          replace hA := hA.fr hw.size
          replace hF := hF.trans hw
          clear hs hF' hw
          refine seqR_nil ?_
          refine HT.cond x36 h65 (fun c38 => ?_) (fun c38 => ?_)
          · have hr := cnd_t c38 hr
            refine HT.seq ?_
            refine HT.text (l := ⟨_, true, .raw (.bool false)⟩ :: []) (tl := []) (by kernel_rfl) (by kernel_rfl) (by kernel_rfl) ?_ ?_
            · exact
                Obls.cons (Obl.plain rfl rfl fun R' w' hw hs hd => by exact of_assign rfl) <|
                Obls.nil
            intro R w hw hs hF'
            have h2 : R 2 = .bool false := hF' 0 _ _ rfl rfl rfl
            replace hO := hO.fr hw
            replace hO : IniOK [] A w := hO.sub [] trivial
            replace hA := hA.fr hw.size
            replace hF := hF.trans hw
            clear hs hF' hw
            refine seqR_nil ?_
            refine HT.ret ?_
            obtain rfl := Option.some.inj hr
            have hr := hr0
            replace hr : some _ = some _ := hr
            obtain rfl := Option.some.inj hr
            exact ⟨.inr rfl, [R 2], ⟨rfl, trivial⟩, h2, hF⟩
          · have hr := cnd_f c38 hr
            refine HT.skip ?_
            obtain ⟨e39, hr⟩ := ck_some hr
            refine HT.text (l := ⟨_, true, .raw (.int .i64 (y12 + (1 : Int)))⟩ :: ⟨_, true, .raw (.int .i64 (y12 + (1 : Int)))⟩ :: []) (tl := []) (by kernel_rfl) (by kernel_rfl) (by kernel_rfl) ?_ ?_
            · exact
                Obls.cons (Obl.plain rfl rfl fun R' w' hw hs hd => by have a0 : R' 22 = .int .i64 y12 := (hs 22 rfl).trans h22; exact of_add a0 rfl e39) <|
                Obls.cons (Obl.plain rfl rfl fun R' w' hw hs hd => by have a0 : R' 66 = .int .i64 (y12 + (1 : Int)) := hd 0 _ _ _ rfl rfl rfl rfl rfl; exact of_move a0) <|
                Obls.nil
            intro R w hw hs hF'
            replace h1 : R 1 = (.pointer (some ⟨b1_0, 0, none⟩)) := (hs 1 rfl).trans h1
            replace h20 : R 20 = u8 := (hs 20 rfl).trans h20
            replace h21 : R 21 = .int .i64 (p0.2.length : Int) := (hs 21 rfl).trans h21
            have h22 : R 22 = .int .i64 (y12 + (1 : Int)) := hF' 1 _ _ rfl rfl rfl
            replace f_u8 := f_u8.fr hw
            replace hO := hO.fr hw
            replace hA := hA.fr hw.size
            replace hF := hF.trans hw
            clear hs hF' hw
            refine seqR_nil ?_
            exact Exists.intro k (And.intro (Nat.lt_succ_self k) ⟨_, _, hr, hA, hF, hAA, hO, h1, h20, h21, h22, f_u8⟩)
      · have hr := cnd_f c13 hr
        refine HT.exit ?_
        obtain rfl := Option.some.inj hr
        replace hO : IniOK [] A w := hO.sub [] trivial
        exact Exists.intro _ ⟨_, rfl, hA, hF, hAA, hO⟩
    rintro R w ⟨A, s11, rfl, hA, hF, hAA, hO⟩
    have hr := exM_go hr
    refine HT.seq ?_
    refine HT.text (l := ⟨_, true, .raw (.bool true)⟩ :: []) (tl := []) (by kernel_rfl) (by kernel_rfl) (by kernel_rfl) ?_ ?_
    · exact
        Obls.cons (Obl.plain rfl rfl fun R' w' hw hs hd => by exact of_assign rfl) <|
        Obls.nil
    intro R w hw hs hF'
    have h2 : R 2 = .bool true := hF' 0 _ _ rfl rfl rfl
    replace hO := hO.fr hw
    replace hA := hA.fr hw.size
    replace hF := hF.trans hw
    clear hs hF' hw
    refine seqR_nil ?_
    refine HT.ret ?_
    obtain rfl := Option.some.inj hr
    exact ⟨.inr rfl, [R 2], ⟨rfl, trivial⟩, h2, hF⟩
def M_laws_eqDiagramNode (fu : Nat) (p0 : T_impl_DiagramNode) (p1 : T_impl_DiagramNode) : Option Bool :=
  bif (p0.1 != p1.1) then (
    some false
  ) else (
    bif (p0.2.1 != p1.2.1) then (
      some false
    ) else (
      bif (p0.2.2.1 != p1.2.2.1) then (
        some false
      ) else (
        bif (p0.2.2.2 != p1.2.2.2) then (
          some false
        ) else (
          some true
        )
      )
    )
  )
set_option maxRecDepth 100000 in
set_option maxHeartbeats 4000000 in
theorem M_laws_eqDiagramNode_ok {fu : Nat} {A0 : Av} {p0 : T_impl_DiagramNode} {p1 : T_impl_DiagramNode} {r : Bool} (hr : M_laws_eqDiagramNode fu p0 p1 = some r) {w : World} {v0 : Value} {v1 : Value} (hA : AvOK A0 w) (h0 : Rep E_impl_DiagramNode A0 w v0 p0) (h1 : Rep E_impl_DiagramNode A0 w v1 p1) :
    Calls Try.prog 114 #[v0, v1] w fun e w' => ∃ v, e = .returned v ∧ (v = .bool r ∧ Fr w w') := by
  unfold M_laws_eqDiagramNode at hr
  obtain ⟨w0, hw0⟩ : ∃ w0, w0 = w := ⟨_, rfl⟩
  have hF : Fr w0 w := hw0 ▸ Fr.refl _
  have hA0 : ∀ b o, A0 b o → b < w0.heap.size := fun b o h => hw0 ▸ hA b o h
  have hA00 : AvOK A0 w0 := hA0
  rw [show Fr w = Fr w0 from hw0 ▸ rfl]
  clear hw0
  obtain ⟨A, hAe⟩ : ∃ A, A = A0 := ⟨_, rfl⟩
  have hAA : ∀ b o, A0 b o → A b o := fun b o h => hAe ▸ h
  replace hA : AvOK A w := hAe ▸ hA
  have hO : IniOK [] A w := IniOK.nil
  refine calls_of_HT2 [.tmp 4] Try.func114 Try.ntmps114 (by decide) rfl rfl (Nat.le_of_ble_eq_true rfl) ?_
  intro R hR
  have f_v0 : Rep E_impl_DiagramNode A w v0 p0 := hAe ▸ h0
  replace h0 : R 0 = v0 := hR 0 _ rfl
  have f_v1 : Rep E_impl_DiagramNode A w v1 p1 := hAe ▸ h1
  replace h1 : R 1 = v1 := hR 1 _ rfl
  clear hR hAe
  refine HT.seq ?_
  refine HT.textR [] (⟨_, true, none, some (.box w0.heap.size 92 E_impl_DiagramNode p0), true, fun A => .any⟩ :: ⟨_, true, none, some (.box w0.heap.size 92 E_impl_DiagramNode p1), true, fun A => .any⟩ :: ⟨_, true, none, none, true, fun A => .raw (.bool false)⟩ :: []) (by kernel_rfl) (by kernel_rfl) (Wf.mk' (by kernel_rfl) (UAll.cons ust_any (UAll.cons ust_any (UAll.cons ust_raw (UAll.nil)))) (by kernel_rfl) (by kernel_rfl)) hO hA ?_ ?_
  · exact
      OblsR.cons (OblR.made _ rfl rfl rfl rfl fun A' R' w' ho hd => by have a0 : R' 0 = v0 := (ho.old 0 rfl).trans h0; have ra0 := (f_v0.stp ho.stp).eq a0; exact made_box ra0 (Nat.le_trans hF.size ho.ch.size)) <|
      OblsR.cons (OblR.made _ rfl rfl rfl rfl fun A' R' w' ho hd => by have a0 : R' 1 = v1 := (ho.old 1 rfl).trans h1; have ra0 := (f_v1.stp ho.stp).eq a0; exact made_box ra0 (Nat.le_trans hF.size ho.ch.size)) <|
      OblsR.cons (OblR.plain rfl rfl rfl rfl fun A' R' w' ho hd => by exact of_assign rfl) <|
      OblsR.nil
  intro done ρ A R w hdn hI
  obtain ⟨b2_0, e_b2_0⟩ := hI.boxv hdn 0 rfl rfl
  have h2 : R 2 = (.pointer (some ⟨b2_0, 0, none⟩)) := (hI.opvR hdn 0 0 rfl rfl rfl rfl rfl).symm.trans e_b2_0
  obtain ⟨b3_1, e_b3_1⟩ := hI.boxv hdn 1 rfl rfl
  have h3 : R 3 = (.pointer (some ⟨b3_1, 0, none⟩)) := (hI.opvR hdn 1 1 rfl rfl rfl rfl rfl).symm.trans e_b3_1
  replace hAA := hI.low' hAA hA0 (hO.ge (trivial))
  replace hF : Fr w0 w := Below.trans hF (hI.ch.below hF.size (hO.ge (trivial)))
  replace hO : IniOK [((.pointer (some ⟨b2_0, 0, none⟩)), .box w0.heap.size 92 E_impl_DiagramNode p0), ((.pointer (some ⟨b3_1, 0, none⟩)), .box w0.heap.size 92 E_impl_DiagramNode p1)] A w := hI.left hdn [(0, (.pointer (some ⟨b2_0, 0, none⟩)), .box w0.heap.size 92 E_impl_DiagramNode p0), (1, (.pointer (some ⟨b3_1, 0, none⟩)), .box w0.heap.size 92 E_impl_DiagramNode p1)] ⟨rfl, rfl, e_b2_0, rfl, ⟨rfl, rfl, e_b3_1, rfl, trivial⟩⟩
  replace hA := hI.avok
  clear hI
  refine HT.seq ?_
  refine HT.seq ?_
  refine HT.text (l := ⟨_, true, .raw (.pointer (some ⟨b2_0, 0, none⟩))⟩ :: ⟨_, true, .raw (.int .i64 p0.1)⟩ :: ⟨_, true, .raw (.pointer (some ⟨b3_1, 0, none⟩))⟩ :: ⟨_, true, .raw (.int .i64 p1.1)⟩ :: ⟨_, true, .raw (.bool (p0.1 != p1.1))⟩ :: []) (tl := []) (by kernel_rfl) (by kernel_rfl) (by kernel_rfl) ?_ ?_
  · exact
      Obls.cons (Obl.plain rfl rfl fun R' w' hw hs hd => by have a0 : R' 2 = (.pointer (some ⟨b2_0, 0, none⟩)) := (hs 2 rfl).trans h2; exact of_fieldAddr_raw a0 ff_92_0 Try.sizeOf3 (by decide) rfl) <|
      Obls.cons (Obl.plain rfl rfl fun R' w' hw hs hd => by have a0 : R' 5 = (.pointer (some ⟨b2_0, 0, none⟩)) := hd 0 _ _ _ rfl rfl rfl rfl rfl; exact OpF.int (of_load_box ((hO.fr hw).ok 0 _ rfl).1 a0 fl_impl_DiagramNode_0 rfl Try.isAgg3 Try.sizeOf3)) <|
      Obls.cons (Obl.plain rfl rfl fun R' w' hw hs hd => by have a0 : R' 3 = (.pointer (some ⟨b3_1, 0, none⟩)) := (hs 3 rfl).trans h3; exact of_fieldAddr_raw a0 ff_92_0 Try.sizeOf3 (by decide) rfl) <|
      Obls.cons (Obl.plain rfl rfl fun R' w' hw hs hd => by have a0 : R' 7 = (.pointer (some ⟨b3_1, 0, none⟩)) := hd 0 _ _ _ rfl rfl rfl rfl rfl; exact OpF.int (of_load_box ((hO.fr hw).ok 1 _ rfl).1 a0 fl_impl_DiagramNode_0 rfl Try.isAgg3 Try.sizeOf3)) <|
      Obls.cons (Obl.plain rfl rfl fun R' w' hw hs hd => by have a0 : R' 6 = .int .i64 p0.1 := hd 0 _ _ _ rfl rfl rfl rfl rfl; have a1 : R' 8 = .int .i64 p1.1 := hd 1 _ _ _ rfl rfl rfl rfl rfl; exact of_neq a0 a1) <|
      Obls.nil
  intro R w hw hs hF'
  replace h2 : R 2 = (.pointer (some ⟨b2_0, 0, none⟩)) := (hs 2 rfl).trans h2
  replace h3 : R 3 = (.pointer (some ⟨b3_1, 0, none⟩)) := (hs 3 rfl).trans h3
  have h9 : R 9 = .bool (p0.1 != p1.1) := hF' 4 _ _ rfl rfl rfl
  replace hO := hO.fr hw
  replace hA := hA.fr hw.size
  replace hF := hF.trans hw
  clear hs hF' hw
  refine seqR_nil ?_
  refine HT.cond (p0.1 != p1.1) h9 (fun c3 => ?_) (fun c3 => ?_)
  · have hr := cnd_t c3 hr
    refine HT.seq ?_
    refine HT.text (l := ⟨_, true, .raw (.bool false)⟩ :: []) (tl := []) (by kernel_rfl) (by kernel_rfl) (by kernel_rfl) ?_ ?_
    · exact
        Obls.cons (Obl.plain rfl rfl fun R' w' hw hs hd => by exact of_assign rfl) <|
        Obls.nil
    intro R w hw hs hF'
    have h4 : R 4 = .bool false := hF' 0 _ _ rfl rfl rfl
    replace hO := hO.fr hw
    replace hO : IniOK [] A w := hO.sub [] trivial
    replace hA := hA.fr hw.size
    replace hF := hF.trans hw
    clear hs hF' hw
    refine seqR_nil ?_
    refine HT.ret ?_
    obtain rfl := Option.some.inj hr
    exact ⟨.inr rfl, [R 4], ⟨rfl, trivial⟩, h4, hF⟩
  · have hr := cnd_f c3 hr
    refine HT.skip ?_
    refine HT.seq ?_
    refine HT.seq ?_
    refine HT.text (l := ⟨_, true, .raw (.pointer (some ⟨b2_0, 1, none⟩))⟩ :: ⟨_, true, .raw (.int .i64 p0.2.1)⟩ :: ⟨_, true, .raw (.pointer (some ⟨b3_1, 1, none⟩))⟩ :: ⟨_, true, .raw (.int .i64 p1.2.1)⟩ :: ⟨_, true, .raw (.bool (p0.2.1 != p1.2.1))⟩ :: []) (tl := []) (by kernel_rfl) (by kernel_rfl) (by kernel_rfl) ?_ ?_
    · exact
        Obls.cons (Obl.plain rfl rfl fun R' w' hw hs hd => by have a0 : R' 2 = (.pointer (some ⟨b2_0, 0, none⟩)) := (hs 2 rfl).trans h2; exact of_fieldAddr_raw a0 ff_92_1 Try.sizeOf3 (by decide) rfl) <|
        Obls.cons (Obl.plain rfl rfl fun R' w' hw hs hd => by have a0 : R' 10 = (.pointer (some ⟨b2_0, 1, none⟩)) := hd 0 _ _ _ rfl rfl rfl rfl rfl; exact OpF.int (of_load_box ((hO.fr hw).ok 0 _ rfl).1 a0 fl_impl_DiagramNode_1 rfl Try.isAgg3 Try.sizeOf3)) <|
        Obls.cons (Obl.plain rfl rfl fun R' w' hw hs hd => by have a0 : R' 3 = (.pointer (some ⟨b3_1, 0, none⟩)) := (hs 3 rfl).trans h3; exact of_fieldAddr_raw a0 ff_92_1 Try.sizeOf3 (by decide) rfl) <|
        Obls.cons (Obl.plain rfl rfl fun R' w' hw hs hd => by have a0 : R' 12 = (.pointer (some ⟨b3_1, 1, none⟩)) := hd 0 _ _ _ rfl rfl rfl rfl rfl; exact OpF.int (of_load_box ((hO.fr hw).ok 1 _ rfl).1 a0 fl_impl_DiagramNode_1 rfl Try.isAgg3 Try.sizeOf3)) <|
        Obls.cons (Obl.plain rfl rfl fun R' w' hw hs hd => by have a0 : R' 11 = .int .i64 p0.2.1 := hd 0 _ _ _ rfl rfl rfl rfl rfl; have a1 : R' 13 = .int .i64 p1.2.1 := hd 1 _ _ _ rfl rfl rfl rfl rfl; exact of_neq a0 a1) <|
        Obls.nil
    intro R w hw hs hF'
    replace h2 : R 2 = (.pointer (some ⟨b2_0, 0, none⟩)) := (hs 2 rfl).trans h2
    replace h3 : R 3 = (.pointer (some ⟨b3_1, 0, none⟩)) := (hs 3 rfl).trans h3
    have h14 : R 14 = .bool (p0.2.1 != p1.2.1) := hF' 4 _ _ rfl rfl rfl
    replace hO := hO.fr hw
    replace hA := hA.fr hw.size
    replace hF := hF.trans hw
    clear hs hF' hw
    refine seqR_nil ?_
    refine HT.cond (p0.2.1 != p1.2.1) h14 (fun c4 => ?_) (fun c4 => ?_)
    · have hr := cnd_t c4 hr
      refine HT.seq ?_
      refine HT.text (l := ⟨_, true, .raw (.bool false)⟩ :: []) (tl := []) (by kernel_rfl) (by kernel_rfl) (by kernel_rfl) ?_ ?_
      · exact
          Obls.cons (Obl.plain rfl rfl fun R' w' hw hs hd => by exact of_assign rfl) <|
          Obls.nil
      intro R w hw hs hF'
      have h4 : R 4 = .bool false := hF' 0 _ _ rfl rfl rfl
      replace hO := hO.fr hw
      replace hO : IniOK [] A w := hO.sub [] trivial
      replace hA := hA.fr hw.size
      replace hF := hF.trans hw
      clear hs hF' hw
      refine seqR_nil ?_
      refine HT.ret ?_
      obtain rfl := Option.some.inj hr
      exact ⟨.inr rfl, [R 4], ⟨rfl, trivial⟩, h4, hF⟩
    · have hr := cnd_f c4 hr
      refine HT.skip ?_
      refine HT.seq ?_
      refine HT.seq ?_
      refine HT.text (l := ⟨_, true, .raw (.pointer (some ⟨b2_0, 2, none⟩))⟩ :: ⟨_, true, .raw (.int .i64 p0.2.2.1)⟩ :: ⟨_, true, .raw (.pointer (some ⟨b3_1, 2, none⟩))⟩ :: ⟨_, true, .raw (.int .i64 p1.2.2.1)⟩ :: ⟨_, true, .raw (.bool (p0.2.2.1 != p1.2.2.1))⟩ :: []) (tl := []) (by kernel_rfl) (by kernel_rfl) (by kernel_rfl) ?_ ?_
      · exact
          Obls.cons (Obl.plain rfl rfl fun R' w' hw hs hd => by have a0 : R' 2 = (.pointer (some ⟨b2_0, 0, none⟩)) := (hs 2 rfl).trans h2; exact of_fieldAddr_raw a0 ff_92_2 Try.sizeOf3 (by decide) rfl) <|
          Obls.cons (Obl.plain rfl rfl fun R' w' hw hs hd => by have a0 : R' 15 = (.pointer (some ⟨b2_0, 2, none⟩)) := hd 0 _ _ _ rfl rfl rfl rfl rfl; exact OpF.int (of_load_box ((hO.fr hw).ok 0 _ rfl).1 a0 fl_impl_DiagramNode_2 rfl Try.isAgg3 Try.sizeOf3)) <|
          Obls.cons (Obl.plain rfl rfl fun R' w' hw hs hd => by have a0 : R' 3 = (.pointer (some ⟨b3_1, 0, none⟩)) := (hs 3 rfl).trans h3; exact of_fieldAddr_raw a0 ff_92_2 Try.sizeOf3 (by decide) rfl) <|
          Obls.cons (Obl.plain rfl rfl fun R' w' hw hs hd => by have a0 : R' 17 = (.pointer (some ⟨b3_1, 2, none⟩)) := hd 0 _ _ _ rfl rfl rfl rfl rfl; exact OpF.int (of_load_box ((hO.fr hw).ok 1 _ rfl).1 a0 fl_impl_DiagramNode_2 rfl Try.isAgg3 Try.sizeOf3)) <|
          Obls.cons (Obl.plain rfl rfl fun R' w' hw hs hd => by have a0 : R' 16 = .int .i64 p0.2.2.1 := hd 0 _ _ _ rfl rfl rfl rfl rfl; have a1 : R' 18 = .int .i64 p1.2.2.1 := hd 1 _ _ _ rfl rfl rfl rfl rfl; exact of_neq a0 a1) <|
          Obls.nil
      intro R w hw hs hF'
      replace h2 : R 2 = (.pointer (some ⟨b2_0, 0, none⟩)) := (hs 2 rfl).trans h2
      replace h3 : R 3 = (.pointer (some ⟨b3_1, 0, none⟩)) := (hs 3 rfl).trans h3
      have h19 : R 19 = .bool (p0.2.2.1 != p1.2.2.1) := hF' 4 _ _ rfl rfl rfl
      replace hO := hO.fr hw
      replace hA := hA.fr hw.size
      replace hF := hF.trans hw
      clear hs hF' hw
      refine seqR_nil ?_
      refine HT.cond (p0.2.2.1 != p1.2.2.1) h19 (fun c5 => ?_) (fun c5 => ?_)
      · have hr := cnd_t c5 hr
        refine HT.seq ?_
        refine HT.text (l := ⟨_, true, .raw (.bool false)⟩ :: []) (tl := []) (by kernel_rfl) (by kernel_rfl) (by kernel_rfl) ?_ ?_
        · exact
            Obls.cons (Obl.plain rfl rfl fun R' w' hw hs hd => by exact of_assign rfl) <|
            Obls.nil
        intro R w hw hs hF'
        have h4 : R 4 = .bool false := hF' 0 _ _ rfl rfl rfl
        replace hO := hO.fr hw
        replace hO : IniOK [] A w := hO.sub [] trivial
        replace hA := hA.fr hw.size
        replace hF := hF.trans hw
        clear hs hF' hw
        refine seqR_nil ?_
        refine HT.ret ?_
        obtain rfl := Option.some.inj hr
        exact ⟨.inr rfl, [R 4], ⟨rfl, trivial⟩, h4, hF⟩
      · have hr := cnd_f c5 hr
        refine HT.skip ?_
        refine HT.seq ?_
        refine HT.seq ?_
        refine HT.text (l := ⟨_, true, .raw (.pointer (some ⟨b2_0, 3, none⟩))⟩ :: ⟨_, true, .raw (.int .i64 p0.2.2.2)⟩ :: ⟨_, true, .raw (.pointer (some ⟨b3_1, 3, none⟩))⟩ :: ⟨_, true, .raw (.int .i64 p1.2.2.2)⟩ :: ⟨_, true, .raw (.bool (p0.2.2.2 != p1.2.2.2))⟩ :: []) (tl := []) (by kernel_rfl) (by kernel_rfl) (by kernel_rfl) ?_ ?_
        · exact
            Obls.cons (Obl.plain rfl rfl fun R' w' hw hs hd => by have a0 : R' 2 = (.pointer (some ⟨b2_0, 0, none⟩)) := (hs 2 rfl).trans h2; exact of_fieldAddr_raw a0 ff_92_3 Try.sizeOf3 (by decide) rfl) <|
            Obls.cons (Obl.plain rfl rfl fun R' w' hw hs hd => by have a0 : R' 20 = (.pointer (some ⟨b2_0, 3, none⟩)) := hd 0 _ _ _ rfl rfl rfl rfl rfl; exact OpF.int (of_load_box ((hO.fr hw).ok 0 _ rfl).1 a0 fl_impl_DiagramNode_3 rfl Try.isAgg3 Try.sizeOf3)) <|
            Obls.cons (Obl.plain rfl rfl fun R' w' hw hs hd => by have a0 : R' 3 = (.pointer (some ⟨b3_1, 0, none⟩)) := (hs 3 rfl).trans h3; exact of_fieldAddr_raw a0 ff_92_3 Try.sizeOf3 (by decide) rfl) <|
            Obls.cons (Obl.plain rfl rfl fun R' w' hw hs hd => by have a0 : R' 22 = (.pointer (some ⟨b3_1, 3, none⟩)) := hd 0 _ _ _ rfl rfl rfl rfl rfl; exact OpF.int (of_load_box ((hO.fr hw).ok 1 _ rfl).1 a0 fl_impl_DiagramNode_3 rfl Try.isAgg3 Try.sizeOf3)) <|
            Obls.cons (Obl.plain rfl rfl fun R' w' hw hs hd => by have a0 : R' 21 = .int .i64 p0.2.2.2 := hd 0 _ _ _ rfl rfl rfl rfl rfl; have a1 : R' 23 = .int .i64 p1.2.2.2 := hd 1 _ _ _ rfl rfl rfl rfl rfl; exact of_neq a0 a1) <|
            Obls.nil
        intro R w hw hs hF'
        have h24 : R 24 = .bool (p0.2.2.2 != p1.2.2.2) := hF' 4 _ _ rfl rfl rfl
        replace hO := hO.fr hw
        replace hO : IniOK [] A w := hO.sub [] trivial
        replace hA := hA.fr hw.size
        replace hF := hF.trans hw
        clear hs hF' hw
        refine seqR_nil ?_
        refine HT.cond (p0.2.2.2 != p1.2.2.2) h24 (fun c6 => ?_) (fun c6 => ?_)
        · have hr := cnd_t c6 hr
          refine HT.seq ?_
          refine HT.text (l := ⟨_, true, .raw (.bool false)⟩ :: []) (tl := []) (by kernel_rfl) (by kernel_rfl) (by kernel_rfl) ?_ ?_
          · exact
              Obls.cons (Obl.plain rfl rfl fun R' w' hw hs hd => by exact of_assign rfl) <|
              Obls.nil
          intro R w hw hs hF'
          have h4 : R 4 = .bool false := hF' 0 _ _ rfl rfl rfl
          replace hO := hO.fr hw
          replace hA := hA.fr hw.size
          replace hF := hF.trans hw
          clear hs hF' hw
          refine seqR_nil ?_
          refine HT.ret ?_
          obtain rfl := Option.some.inj hr
          exact ⟨.inr rfl, [R 4], ⟨rfl, trivial⟩, h4, hF⟩
        · have hr := cnd_f c6 hr
          refine HT.skip ?_
          refine HT.seq ?_
          refine HT.text (l := ⟨_, true, .raw (.bool true)⟩ :: []) (tl := []) (by kernel_rfl) (by kernel_rfl) (by kernel_rfl) ?_ ?_
          · exact
              Obls.cons (Obl.plain rfl rfl fun R' w' hw hs hd => by exact of_assign rfl) <|
              Obls.nil
          intro R w hw hs hF'
          have h4 : R 4 = .bool true := hF' 0 _ _ rfl rfl rfl
          replace hO := hO.fr hw
          replace hA := hA.fr hw.size
          replace hF := hF.trans hw
          clear hs hF' hw
          refine seqR_nil ?_
          refine HT.ret ?_
          obtain rfl := Option.some.inj hr
          exact ⟨.inr rfl, [R 4], ⟨rfl, trivial⟩, h4, hF⟩
def M_laws_eqDiagramNodeS_L0 (fu : Nat) (p0 : List T_impl_DiagramNode) (p1 : List T_impl_DiagramNode) : Nat → Int → Option (Ex Bool Unit)
  | 0, _ => none
  | k + 1, y5 =>
    bif (decide (y5 < (p0.length : Int))) then (
      ck (inR y5 p0.length) <|
      ck (inR y5 p1.length) <|
      cl true (M_laws_eqDiagramNode fu (gtD p0 y5) (gtD p1 y5)) fun x9 =>
      bif (!x9) then (
        some (Ex.ret false)
      ) else (
        ck (i64B (y5 + (1 : Int))) <|
        M_laws_eqDiagramNodeS_L0 fu p0 p1 k (y5 + (1 : Int))
      )
    ) else (
      some (Ex.go ())
    )
def M_laws_eqDiagramNodeS (fu : Nat) (p0 : List T_impl_DiagramNode) (p1 : List T_impl_DiagramNode) : Option Bool :=
  bif ((p0.length : Int) != (p1.length : Int)) then (
    some false
  ) else (
    cl true (M_laws_eqDiagramNodeS_L0 fu p0 p1 fu (0 : Int)) fun rl2 =>
    exM rl2 (fun r => some r) fun s4 =>
    some true
  )
set_option maxRecDepth 100000 in
set_option maxHeartbeats 4000000 in
theorem M_laws_eqDiagramNodeS_ok {fu : Nat} {A : Av} {p0 : List T_impl_DiagramNode} {p1 : List T_impl_DiagramNode} {r : Bool} (hr : M_laws_eqDiagramNodeS fu p0 p1 = some r) {w : World} {v0 : Value} {v1 : Value} (hA : AvOK A w) (h0 : Rep (eSl E_impl_DiagramNode) A w v0 p0) (h1 : Rep (eSl E_impl_DiagramNode) A w v1 p1) :
    Calls Try.prog 78 #[v0, v1] w fun e w' => ∃ v, e = .returned v ∧ (v = .bool r ∧ Fr w w') := by
  unfold M_laws_eqDiagramNodeS at hr
  obtain ⟨w0, hw0⟩ : ∃ w0, w0 = w := ⟨_, rfl⟩
  have hF : Fr w0 w := hw0 ▸ Fr.refl _
  rw [show Fr w = Fr w0 from hw0 ▸ rfl]
  clear hw0
  refine calls_of_HT2 [.tmp 4] Try.func78 Try.ntmps78 (by decide) rfl rfl (Nat.le_of_ble_eq_true rfl) ?_
  intro R hR
  have f_v0 := h0
  replace h0 : R 0 = v0 := hR 0 _ rfl
  have f_v1 := h1
  replace h1 : R 1 = v1 := hR 1 _ rfl
  clear hR
  refine HT.seq ?_
  refine HT.text (l := ⟨_, true, .raw (.bool false)⟩ :: []) (tl := []) (by kernel_rfl) (by kernel_rfl) (by kernel_rfl) ?_ ?_
  · exact
      Obls.cons (Obl.plain rfl rfl fun R' w' hw hs hd => by exact of_assign rfl) <|
      Obls.nil
  intro R w hw hs hF'
  replace h0 : R 0 = v0 := (hs 0 rfl).trans h0
  replace h1 : R 1 = v1 := (hs 1 rfl).trans h1
  replace f_v0 := f_v0.fr hw
  replace f_v1 := f_v1.fr hw
  replace hA := hA.fr hw.size
  replace hF := hF.trans hw
  clear hs hF' hw
  refine seqR_nil ?_
  refine HT.seq ?_
  refine HT.seq ?_
  refine HT.text (l := ⟨_, true, .raw v0⟩ :: ⟨_, true, .raw (.int .i64 (p0.length : Int))⟩ :: ⟨_, true, .raw v1⟩ :: ⟨_, true, .raw (.int .i64 (p1.length : Int))⟩ :: ⟨_, true, .raw (.bool ((p0.length : Int) != (p1.length : Int)))⟩ :: []) (tl := []) (by kernel_rfl) (by kernel_rfl) (by kernel_rfl) ?_ ?_
  · exact
      Obls.cons (Obl.plain rfl rfl fun R' w' hw hs hd => by have a0 : R' 0 = v0 := (hs 0 rfl).trans h0; exact of_move a0) <|
      Obls.cons (Obl.plain rfl rfl fun R' w' hw hs hd => by have a0 : R' 6 = v0 := hd 0 _ _ _ rfl rfl rfl rfl rfl; have ra0 := (f_v0.fr hw).eq a0; exact of_len_sl (aT := #[]) ra0 Try.underlying41) <|
      Obls.cons (Obl.plain rfl rfl fun R' w' hw hs hd => by have a0 : R' 1 = v1 := (hs 1 rfl).trans h1; exact of_move a0) <|
      Obls.cons (Obl.plain rfl rfl fun R' w' hw hs hd => by have a0 : R' 8 = v1 := hd 0 _ _ _ rfl rfl rfl rfl rfl; have ra0 := (f_v1.fr hw).eq a0; exact of_len_sl (aT := #[]) ra0 Try.underlying41) <|
      Obls.cons (Obl.plain rfl rfl fun R' w' hw hs hd => by have a0 : R' 7 = .int .i64 (p0.length : Int) := hd 0 _ _ _ rfl rfl rfl rfl rfl; have a1 : R' 9 = .int .i64 (p1.length : Int) := hd 1 _ _ _ rfl rfl rfl rfl rfl; exact of_neq a0 a1) <|
      Obls.nil
  intro R w hw hs hF'
  replace h0 : R 0 = v0 := (hs 0 rfl).trans h0
  replace h1 : R 1 = v1 := (hs 1 rfl).trans h1
  have h10 : R 10 = .bool ((p0.length : Int) != (p1.length : Int)) := hF' 4 _ _ rfl rfl rfl
  replace f_v0 := f_v0.fr hw
  replace f_v1 := f_v1.fr hw
  replace hA := hA.fr hw.size
  replace hF := hF.trans hw
  clear hs hF' hw
  refine seqR_nil ?_
  refine HT.cond ((p0.length : Int) != (p1.length : Int)) h10 (fun c1 => ?_) (fun c1 => ?_)
  · have hr := cnd_t c1 hr
    refine HT.seq ?_
    refine HT.text (l := ⟨_, true, .raw (.bool false)⟩ :: []) (tl := []) (by kernel_rfl) (by kernel_rfl) (by kernel_rfl) ?_ ?_
    · exact
        Obls.cons (Obl.plain rfl rfl fun R' w' hw hs hd => by exact of_assign rfl) <|
        Obls.nil
    intro R w hw hs hF'
    have h4 : R 4 = .bool false := hF' 0 _ _ rfl rfl rfl
    replace hA := hA.fr hw.size
    replace hF := hF.trans hw
    clear hs hF' hw
    refine seqR_nil ?_
    refine HT.ret ?_
    obtain rfl := Option.some.inj hr
    exact ⟨.inr rfl, [R 4], ⟨rfl, trivial⟩, h4, hF⟩
  · have hr := cnd_f c1 hr
    refine HT.skip ?_
    refine HT.seq ?_
    refine HT.seq ?_
    refine HT.text (l := ⟨_, true, .raw (.int .i64 (0 : Int))⟩ :: []) (tl := []) (by kernel_rfl) (by kernel_rfl) (by kernel_rfl) ?_ ?_
    · exact
        Obls.cons (Obl.plain rfl rfl fun R' w' hw hs hd => by exact of_assign rfl) <|
        Obls.nil
    intro R w hw hs hF'
    replace h0 : R 0 = v0 := (hs 0 rfl).trans h0
    replace h1 : R 1 = v1 := (hs 1 rfl).trans h1
    have h5 : R 5 = .int .i64 (0 : Int) := hF' 0 _ _ rfl rfl rfl
    replace f_v0 := f_v0.fr hw
    replace f_v1 := f_v1.fr hw
    replace hA := hA.fr hw.size
    replace hF := hF.trans hw
    clear hs hF' hw
    refine seqR_nil ?_
    obtain ⟨rl2, q3, hr⟩ := cl_some hr
    replace q3 := q3 rfl
    refine HT.cut0 (fun R w => ∃ (s4 : Unit), rl2 = Ex.go s4 ∧ AvOK A w ∧ Fr w0 w) ?_ ?_
    · refine HT.block ?_
      refine HT.loop (fun k R w => ∃ (y5 : Int), M_laws_eqDiagramNodeS_L0 fu p0 p1 k y5 = some rl2 ∧ AvOK A w ∧ Fr w0 w ∧ R 0 = v0 ∧ R 1 = v1 ∧ R 5 = .int .i64 y5 ∧ Rep (eSl E_impl_DiagramNode) A w v0 p0 ∧ Rep (eSl E_impl_DiagramNode) A w v1 p1) fu ⟨_, q3, hA, hF, h0, h1, h5, f_v0, f_v1⟩ ?_
      have hr0 := hr; clear hr q3
      rintro k R w ⟨y5, hr, hA, hF, h0, h1, h5, f_v0, f_v1⟩
      rcases k with _ | k
      · cases (show none = some _ from hr)
      rw [M_laws_eqDiagramNodeS_L0] at hr
      refine HT.seq ?_
      refine HT.seq ?_
      refine HT.text (l := ⟨_, true, .raw (.int .i64 y5)⟩ :: ⟨_, true, .raw v0⟩ :: ⟨_, true, .raw (.int .i64 (p0.length : Int))⟩ :: ⟨_, true, .raw (.bool (decide (y5 < (p0.length : Int))))⟩ :: []) (tl := []) (by kernel_rfl) (by kernel_rfl) (by kernel_rfl) ?_ ?_
      · exact
          Obls.cons (Obl.plain rfl rfl fun R' w' hw hs hd => by have a0 : R' 5 = .int .i64 y5 := (hs 5 rfl).trans h5; exact of_move a0) <|
          Obls.cons (Obl.plain rfl rfl fun R' w' hw hs hd => by have a0 : R' 0 = v0 := (hs 0 rfl).trans h0; exact of_move a0) <|
          Obls.cons (Obl.plain rfl rfl fun R' w' hw hs hd => by have a0 : R' 12 = v0 := hd 0 _ _ _ rfl rfl rfl rfl rfl; have ra0 := (f_v0.fr hw).eq a0; exact of_len_sl (aT := #[]) ra0 Try.underlying41) <|
          Obls.cons (Obl.plain rfl rfl fun R' w' hw hs hd => by have a0 : R' 11 = .int .i64 y5 := hd 0 _ _ _ rfl rfl rfl rfl rfl; have a1 : R' 13 = .int .i64 (p0.length : Int) := hd 1 _ _ _ rfl rfl rfl rfl rfl; exact of_lss a0 a1) <|
          Obls.nil
      intro R w hw hs hF'
      replace h0 : R 0 = v0 := (hs 0 rfl).trans h0
      replace h1 : R 1 = v1 := (hs 1 rfl).trans h1
      replace h5 : R 5 = .int .i64 y5 := (hs 5 rfl).trans h5
      have h14 : R 14 = .bool (decide (y5 < (p0.length : Int))) := hF' 3 _ _ rfl rfl rfl
      replace f_v0 := f_v0.fr hw
      replace f_v1 := f_v1.fr hw
      replace hA := hA.fr hw.size
      replace hF := hF.trans hw
      clear hs hF' hw
      refine seqR_nil ?_
      refine HT.cond (decide (y5 < (p0.length : Int))) h14 (fun c6 => ?_) (fun c6 => ?_)
      · have hr := cnd_t c6 hr
        refine HT.skip ?_
        refine HT.seq ?_
        refine HT.block ?_
        refine HT.seq ?_
        obtain ⟨e7, hr⟩ := ck_some hr
        obtain ⟨e8, hr⟩ := ck_some hr
        obtain ⟨x9, q10, hr⟩ := cl_some hr
        refine HT.draw (by kernel_rfl) (l := ⟨_, true, .raw v0⟩ :: ⟨_, true, .raw (.int .i64 y5)⟩ :: ⟨_, true, .qtr E_impl_DiagramNode A (gtD p0 y5)⟩ :: ⟨_, true, .rep E_impl_DiagramNode A (gtD p0 y5)⟩ :: ⟨_, true, .raw v1⟩ :: ⟨_, true, .raw (.int .i64 y5)⟩ :: ⟨_, true, .qtr E_impl_DiagramNode A (gtD p1 y5)⟩ :: ⟨_, true, .rep E_impl_DiagramNode A (gtD p1 y5)⟩ :: ⟨_, true, .raw (.bool x9)⟩ :: ⟨_, true, .raw (.bool (!x9))⟩ :: []) (tl := []) (by kernel_rfl) (by kernel_rfl) (by kernel_rfl) (by kernel_rfl) ?_ ?_
        · exact
            Obls.cons (Obl.plain rfl rfl fun R' w' hw hs hd => by have a0 : R' 0 = v0 := (hs 0 rfl).trans h0; exact of_move a0) <|
            Obls.cons (Obl.plain rfl rfl fun R' w' hw hs hd => by have a0 : R' 5 = .int .i64 y5 := (hs 5 rfl).trans h5; exact of_move a0) <|
            Obls.cons (Obl.plain rfl rfl fun R' w' hw hs hd => by have a0 : R' 17 = v0 := hd 0 _ _ _ rfl rfl rfl rfl rfl; have a1 : R' 18 = .int .i64 y5 := hd 1 _ _ _ rfl rfl rfl rfl rfl; have ra0 := (f_v0.fr hw).eq a0; exact of_indexAddr ra0 a1 Try.underlying41 Try.sizeOf92 e7) <|
            Obls.cons (Obl.plain rfl rfl fun R' w' hw hs hd => by have a0 : QRep E_impl_DiagramNode A w' (R' 19) (gtD p0 y5) := hd 0 _ _ _ rfl rfl rfl rfl rfl; exact (of_load a0.ptr Try.isAgg92 Try.sizeOf92)) <|
            Obls.cons (Obl.plain rfl rfl fun R' w' hw hs hd => by have a0 : R' 1 = v1 := (hs 1 rfl).trans h1; exact of_move a0) <|
            Obls.cons (Obl.plain rfl rfl fun R' w' hw hs hd => by have a0 : R' 5 = .int .i64 y5 := (hs 5 rfl).trans h5; exact of_move a0) <|
            Obls.cons (Obl.plain rfl rfl fun R' w' hw hs hd => by have a0 : R' 21 = v1 := hd 0 _ _ _ rfl rfl rfl rfl rfl; have a1 : R' 22 = .int .i64 y5 := hd 1 _ _ _ rfl rfl rfl rfl rfl; have ra0 := (f_v1.fr hw).eq a0; exact of_indexAddr ra0 a1 Try.underlying41 Try.sizeOf92 e8) <|
            Obls.cons (Obl.plain rfl rfl fun R' w' hw hs hd => by have a0 : QRep E_impl_DiagramNode A w' (R' 23) (gtD p1 y5) := hd 0 _ _ _ rfl rfl rfl rfl rfl; exact (of_load a0.ptr Try.isAgg92 Try.sizeOf92)) <|
            Obls.cons (Obl.plain rfl rfl fun R' w' hw hs hd => by have a0 : Rep E_impl_DiagramNode A w' (R' 20) (gtD p0 y5) := hd 0 _ _ _ rfl rfl rfl rfl rfl; have a1 : Rep E_impl_DiagramNode A w' (R' 24) (gtD p1 y5) := hd 1 _ _ _ rfl rfl rfl rfl rfl; exact of_call Try.call114 (M_laws_eqDiagramNode_ok (q10 rfl) (hA.fr hw.size) a0 a1)) <|
            Obls.cons (Obl.plain rfl rfl fun R' w' hw hs hd => by have a0 : R' 25 = .bool x9 := hd 0 _ _ _ rfl rfl rfl rfl rfl; exact of_not a0) <|
            Obls.nil
        intro R w hw hs hF'
        replace h0 : R 0 = v0 := (hs 0 rfl).trans h0
        replace h1 : R 1 = v1 := (hs 1 rfl).trans h1
        replace h5 : R 5 = .int .i64 y5 := (hs 5 rfl).trans h5
        have h26 : R 26 = .bool (!x9) := hF' 9 _ _ rfl rfl rfl
        replace f_v0 := f_v0.fr hw
        replace f_v1 := f_v1.fr hw
        replace hA := hA.fr hw.size
        replace hF := hF.trans hw
        clear hs hF' hw
        refine seqR_nil ?_
        refine HT.cond (!x9) h26 (fun c11 => ?_) (fun c11 => ?_)
        · have hr := cnd_t c11 hr
          refine HT.seq ?_
          refine HT.text (l := ⟨_, true, .raw (.bool false)⟩ :: []) (tl := []) (by kernel_rfl) (by kernel_rfl) (by kernel_rfl) ?_ ?_
          · exact
              Obls.cons (Obl.plain rfl rfl fun R' w' hw hs hd => by exact of_assign rfl) <|
              Obls.nil
          intro R w hw hs hF'
          have h4 : R 4 = .bool false := hF' 0 _ _ rfl rfl rfl
          replace hA := hA.fr hw.size
          replace hF := hF.trans hw
          clear hs hF' hw
          refine seqR_nil ?_
          refine HT.ret ?_
          obtain rfl := Option.some.inj hr
          have hr := hr0
          replace hr : some _ = some _ := hr
          obtain rfl := Option.some.inj hr
          exact ⟨.inr rfl, [R 4], ⟨rfl, trivial⟩, h4, hF⟩
        · have hr := cnd_f c11 hr
          refine HT.skip ?_
          obtain ⟨e12, hr⟩ := ck_some hr
          refine HT.text (l := ⟨_, true, .raw (.int .i64 y5)⟩ :: ⟨_, true, .raw (.int .i64 (y5 + (1 : Int)))⟩ :: ⟨_, true, .raw (.int .i64 (y5 + (1 : Int)))⟩ :: []) (tl := []) (by kernel_rfl) (by kernel_rfl) (by kernel_rfl) ?_ ?_
          · exact
              Obls.cons (Obl.plain rfl rfl fun R' w' hw hs hd => by have a0 : R' 5 = .int .i64 y5 := (hs 5 rfl).trans h5; exact of_move a0) <|
              Obls.cons (Obl.plain rfl rfl fun R' w' hw hs hd => by have a0 : R' 15 = .int .i64 y5 := hd 0 _ _ _ rfl rfl rfl rfl rfl; exact of_add a0 rfl e12) <|
              Obls.cons (Obl.plain rfl rfl fun R' w' hw hs hd => by have a0 : R' 16 = .int .i64 (y5 + (1 : Int)) := hd 0 _ _ _ rfl rfl rfl rfl rfl; exact of_assign a0) <|
              Obls.nil
          intro R w hw hs hF'
          replace h0 : R 0 = v0 := (hs 0 rfl).trans h0
          replace h1 : R 1 = v1 := (hs 1 rfl).trans h1
          have h5 : R 5 = .int .i64 (y5 + (1 : Int)) := hF' 2 _ _ rfl rfl rfl
          replace f_v0 := f_v0.fr hw
          replace f_v1 := f_v1.fr hw
          replace hA := hA.fr hw.size
          replace hF := hF.trans hw
          clear hs hF' hw
          refine seqR_nil ?_
          exact Exists.intro k (And.intro (Nat.lt_succ_self k) ⟨_, hr, hA, hF, h0, h1, h5, f_v0, f_v1⟩)
      · have hr := cnd_f c6 hr
        refine HT.exit ?_
        obtain rfl := Option.some.inj hr
        exact Exists.intro _ ⟨rfl, hA, hF⟩
    rintro R w ⟨s4, rfl, hA, hF⟩
    have hr := exM_go hr
    refine HT.seq ?_
    refine HT.text (l := ⟨_, true, .raw (.bool true)⟩ :: []) (tl := []) (by kernel_rfl) (by kernel_rfl) (by kernel_rfl) ?_ ?_
    · exact
        Obls.cons (Obl.plain rfl rfl fun R' w' hw hs hd => by exact of_assign rfl) <|
        Obls.nil
    intro R w hw hs hF'
    have h4 : R 4 = .bool true := hF' 0 _ _ rfl rfl rfl
    replace hA := hA.fr hw.size
    replace hF := hF.trans hw
    clear hs hF' hw
    refine seqR_nil ?_
    refine HT.ret ?_
    obtain rfl := Option.some.inj hr
    exact ⟨.inr rfl, [R 4], ⟨rfl, trivial⟩, h4, hF⟩
def M_laws_eqDiagram (fu : Nat) (p0 : T_impl_Diagram) (p1 : T_impl_Diagram) : Option Bool :=
  bif (p0.1 != p1.1) then (
    some false
  ) else (
    cl true (M_laws_eqDiagramNodeS fu p0.2 p1.2) fun x4 =>
    bif (!x4) then (
      some false
    ) else (
      some true
    )
  )
set_option maxRecDepth 100000 in
set_option maxHeartbeats 4000000 in
theorem M_laws_eqDiagram_ok {fu : Nat} {A0 : Av} {p0 : T_impl_Diagram} {p1 : T_impl_Diagram} {r : Bool} (hr : M_laws_eqDiagram fu p0 p1 = some r) {w : World} {v0 : Value} {v1 : Value} (hA : AvOK A0 w) (h0 : Rep E_impl_Diagram A0 w v0 p0) (h1 : Rep E_impl_Diagram A0 w v1 p1) :
    Calls Try.prog 26 #[v0, v1] w fun e w' => ∃ v, e = .returned v ∧ (v = .bool r ∧ Fr w w') := by
  unfold M_laws_eqDiagram at hr
  obtain ⟨w0, hw0⟩ : ∃ w0, w0 = w := ⟨_, rfl⟩
  have hF : Fr w0 w := hw0 ▸ Fr.refl _
  have hA0 : ∀ b o, A0 b o → b < w0.heap.size := fun b o h => hw0 ▸ hA b o h
  have hA00 : AvOK A0 w0 := hA0
  rw [show Fr w = Fr w0 from hw0 ▸ rfl]
  clear hw0
  obtain ⟨A, hAe⟩ : ∃ A, A = A0 := ⟨_, rfl⟩
  have hAA : ∀ b o, A0 b o → A b o := fun b o h => hAe ▸ h
  replace hA : AvOK A w := hAe ▸ hA
  have hO : IniOK [] A w := IniOK.nil
  refine calls_of_HT2 [.tmp 4] Try.func26 Try.ntmps26 (by decide) rfl rfl (Nat.le_of_ble_eq_true rfl) ?_
  intro R hR
  have f_v0 : Rep E_impl_Diagram A w v0 p0 := hAe ▸ h0
  replace h0 : R 0 = v0 := hR 0 _ rfl
  have f_v1 : Rep E_impl_Diagram A w v1 p1 := hAe ▸ h1
  replace h1 : R 1 = v1 := hR 1 _ rfl
  clear hR hAe
  refine HT.seq ?_
  refine HT.textR [] (⟨_, true, none, some (.box w0.heap.size 43 E_impl_Diagram p0), true, fun A => .any⟩ :: ⟨_, true, none, some (.box w0.heap.size 43 E_impl_Diagram p1), true, fun A => .any⟩ :: ⟨_, true, none, none, true, fun A => .raw (.bool false)⟩ :: []) (by kernel_rfl) (by kernel_rfl) (Wf.mk' (by kernel_rfl) (UAll.cons ust_any (UAll.cons ust_any (UAll.cons ust_raw (UAll.nil)))) (by kernel_rfl) (by kernel_rfl)) hO hA ?_ ?_
  · exact
      OblsR.cons (OblR.made _ rfl rfl rfl rfl fun A' R' w' ho hd => by have a0 : R' 0 = v0 := (ho.old 0 rfl).trans h0; have ra0 := (f_v0.stp ho.stp).eq a0; exact made_box ra0 (Nat.le_trans hF.size ho.ch.size)) <|
      OblsR.cons (OblR.made _ rfl rfl rfl rfl fun A' R' w' ho hd => by have a0 : R' 1 = v1 := (ho.old 1 rfl).trans h1; have ra0 := (f_v1.stp ho.stp).eq a0; exact made_box ra0 (Nat.le_trans hF.size ho.ch.size)) <|
      OblsR.cons (OblR.plain rfl rfl rfl rfl fun A' R' w' ho hd => by exact of_assign rfl) <|
      OblsR.nil
  intro done ρ A R w hdn hI
  obtain ⟨b2_0, e_b2_0⟩ := hI.boxv hdn 0 rfl rfl
  have h2 : R 2 = (.pointer (some ⟨b2_0, 0, none⟩)) := (hI.opvR hdn 0 0 rfl rfl rfl rfl rfl).symm.trans e_b2_0
  obtain ⟨b3_1, e_b3_1⟩ := hI.boxv hdn 1 rfl rfl
  have h3 : R 3 = (.pointer (some ⟨b3_1, 0, none⟩)) := (hI.opvR hdn 1 1 rfl rfl rfl rfl rfl).symm.trans e_b3_1
  replace hAA := hI.low' hAA hA0 (hO.ge (trivial))
  replace hF : Fr w0 w := Below.trans hF (hI.ch.below hF.size (hO.ge (trivial)))
  replace hO : IniOK [((.pointer (some ⟨b2_0, 0, none⟩)), .box w0.heap.size 43 E_impl_Diagram p0), ((.pointer (some ⟨b3_1, 0, none⟩)), .box w0.heap.size 43 E_impl_Diagram p1)] A w := hI.left hdn [(0, (.pointer (some ⟨b2_0, 0, none⟩)), .box w0.heap.size 43 E_impl_Diagram p0), (1, (.pointer (some ⟨b3_1, 0, none⟩)), .box w0.heap.size 43 E_impl_Diagram p1)] ⟨rfl, rfl, e_b2_0, rfl, ⟨rfl, rfl, e_b3_1, rfl, trivial⟩⟩
  replace hA := hI.avok
  clear hI
  refine HT.seq ?_
  refine HT.seq ?_
  refine HT.text (l := ⟨_, true, .raw (.pointer (some ⟨b2_0, 0, none⟩))⟩ :: ⟨_, true, .raw (.int .i64 p0.1)⟩ :: ⟨_, true, .raw (.pointer (some ⟨b3_1, 0, none⟩))⟩ :: ⟨_, true, .raw (.int .i64 p1.1)⟩ :: ⟨_, true, .raw (.bool (p0.1 != p1.1))⟩ :: []) (tl := []) (by kernel_rfl) (by kernel_rfl) (by kernel_rfl) ?_ ?_
  · exact
      Obls.cons (Obl.plain rfl rfl fun R' w' hw hs hd => by have a0 : R' 2 = (.pointer (some ⟨b2_0, 0, none⟩)) := (hs 2 rfl).trans h2; exact of_fieldAddr_raw a0 ff_43_0 Try.sizeOf3 (by decide) rfl) <|
      Obls.cons (Obl.plain rfl rfl fun R' w' hw hs hd => by have a0 : R' 5 = (.pointer (some ⟨b2_0, 0, none⟩)) := hd 0 _ _ _ rfl rfl rfl rfl rfl; exact OpF.int (of_load_box ((hO.fr hw).ok 0 _ rfl).1 a0 fl_impl_Diagram_0 rfl Try.isAgg3 Try.sizeOf3)) <|
      Obls.cons (Obl.plain rfl rfl fun R' w' hw hs hd => by have a0 : R' 3 = (.pointer (some ⟨b3_1, 0, none⟩)) := (hs 3 rfl).trans h3; exact of_fieldAddr_raw a0 ff_43_0 Try.sizeOf3 (by decide) rfl) <|
      Obls.cons (Obl.plain rfl rfl fun R' w' hw hs hd => by have a0 : R' 7 = (.pointer (some ⟨b3_1, 0, none⟩)) := hd 0 _ _ _ rfl rfl rfl rfl rfl; exact OpF.int (of_load_box ((hO.fr hw).ok 1 _ rfl).1 a0 fl_impl_Diagram_0 rfl Try.isAgg3 Try.sizeOf3)) <|
      Obls.cons (Obl.plain rfl rfl fun R' w' hw hs hd => by have a0 : R' 6 = .int .i64 p0.1 := hd 0 _ _ _ rfl rfl rfl rfl rfl; have a1 : R' 8 = .int .i64 p1.1 := hd 1 _ _ _ rfl rfl rfl rfl rfl; exact of_neq a0 a1) <|
      Obls.nil
  intro R w hw hs hF'
  replace h2 : R 2 = (.pointer (some ⟨b2_0, 0, none⟩)) := (hs 2 rfl).trans h2
  replace h3 : R 3 = (.pointer (some ⟨b3_1, 0, none⟩)) := (hs 3 rfl).trans h3
  have h9 : R 9 = .bool (p0.1 != p1.1) := hF' 4 _ _ rfl rfl rfl
  replace hO := hO.fr hw
  replace hA := hA.fr hw.size
  replace hF := hF.trans hw
  clear hs hF' hw
  refine seqR_nil ?_
  refine HT.cond (p0.1 != p1.1) h9 (fun c3 => ?_) (fun c3 => ?_)
  · have hr := cnd_t c3 hr
    refine HT.seq ?_
    refine HT.text (l := ⟨_, true, .raw (.bool false)⟩ :: []) (tl := []) (by kernel_rfl) (by kernel_rfl) (by kernel_rfl) ?_ ?_
    · exact
        Obls.cons (Obl.plain rfl rfl fun R' w' hw hs hd => by exact of_assign rfl) <|
        Obls.nil
    intro R w hw hs hF'
    have h4 : R 4 = .bool false := hF' 0 _ _ rfl rfl rfl
    replace hO := hO.fr hw
    replace hO : IniOK [] A w := hO.sub [] trivial
    replace hA := hA.fr hw.size
    replace hF := hF.trans hw
    clear hs hF' hw
    refine seqR_nil ?_
    refine HT.ret ?_
    obtain rfl := Option.some.inj hr
    exact ⟨.inr rfl, [R 4], ⟨rfl, trivial⟩, h4, hF⟩
  · have hr := cnd_f c3 hr
    refine HT.skip ?_
    refine HT.seq ?_
    refine HT.seq ?_
    obtain ⟨x4, q5, hr⟩ := cl_some hr
    refine HT.text (l := ⟨_, true, .raw (.pointer (some ⟨b2_0, 1, none⟩))⟩ :: ⟨_, true, .rep (eSl E_impl_DiagramNode) A p0.2⟩ :: ⟨_, true, .raw (.pointer (some ⟨b3_1, 1, none⟩))⟩ :: ⟨_, true, .rep (eSl E_impl_DiagramNode) A p1.2⟩ :: ⟨_, true, .raw (.bool x4)⟩ :: ⟨_, true, .raw (.bool (!x4))⟩ :: []) (tl := []) (by kernel_rfl) (by kernel_rfl) (by kernel_rfl) ?_ ?_
    · exact
        Obls.cons (Obl.plain rfl rfl fun R' w' hw hs hd => by have a0 : R' 2 = (.pointer (some ⟨b2_0, 0, none⟩)) := (hs 2 rfl).trans h2; exact of_fieldAddr_raw a0 ff_43_1 Try.sizeOf41 (by decide) rfl) <|
        Obls.cons (Obl.plain rfl rfl fun R' w' hw hs hd => by have a0 : R' 10 = (.pointer (some ⟨b2_0, 1, none⟩)) := hd 0 _ _ _ rfl rfl rfl rfl rfl; exact (of_load_box ((hO.fr hw).ok 0 _ rfl).1 a0 fl_impl_Diagram_1 rfl Try.isAgg41 Try.sizeOf41)) <|
        Obls.cons (Obl.plain rfl rfl fun R' w' hw hs hd => by have a0 : R' 3 = (.pointer (some ⟨b3_1, 0, none⟩)) := (hs 3 rfl).trans h3; exact of_fieldAddr_raw a0 ff_43_1 Try.sizeOf41 (by decide) rfl) <|
        Obls.cons (Obl.plain rfl rfl fun R' w' hw hs hd => by have a0 : R' 12 = (.pointer (some ⟨b3_1, 1, none⟩)) := hd 0 _ _ _ rfl rfl rfl rfl rfl; exact (of_load_box ((hO.fr hw).ok 1 _ rfl).1 a0 fl_impl_Diagram_1 rfl Try.isAgg41 Try.sizeOf41)) <|
        Obls.cons (Obl.plain rfl rfl fun R' w' hw hs hd => by have a0 : Rep (eSl E_impl_DiagramNode) A w' (R' 11) p0.2 := hd 0 _ _ _ rfl rfl rfl rfl rfl; have a1 : Rep (eSl E_impl_DiagramNode) A w' (R' 13) p1.2 := hd 1 _ _ _ rfl rfl rfl rfl rfl; exact of_call Try.call78 (M_laws_eqDiagramNodeS_ok (q5 rfl) (hA.fr hw.size) a0 a1)) <|
        Obls.cons (Obl.plain rfl rfl fun R' w' hw hs hd => by have a0 : R' 14 = .bool x4 := hd 0 _ _ _ rfl rfl rfl rfl rfl; exact of_not a0) <|
        Obls.nil
    intro R w hw hs hF'
    have h15 : R 15 = .bool (!x4) := hF' 5 _ _ rfl rfl rfl
    replace hO := hO.fr hw
    replace hO : IniOK [] A w := hO.sub [] trivial
    replace hA := hA.fr hw.size
    replace hF := hF.trans hw
    clear hs hF' hw
    refine seqR_nil ?_
    refine HT.cond (!x4) h15 (fun c6 => ?_) (fun c6 => ?_)
    · have hr := cnd_t c6 hr
      refine HT.seq ?_
      refine HT.text (l := ⟨_, true, .raw (.bool false)⟩ :: []) (tl := []) (by kernel_rfl) (by kernel_rfl) (by kernel_rfl) ?_ ?_
      · exact
          Obls.cons (Obl.plain rfl rfl fun R' w' hw hs hd => by exact of_assign rfl) <|
          Obls.nil
      intro R w hw hs hF'
      have h4 : R 4 = .bool false := hF' 0 _ _ rfl rfl rfl
      replace hO := hO.fr hw
      replace hA := hA.fr hw.size
      replace hF := hF.trans hw
      clear hs hF' hw
      refine seqR_nil ?_
      refine HT.ret ?_
      obtain rfl := Option.some.inj hr
      exact ⟨.inr rfl, [R 4], ⟨rfl, trivial⟩, h4, hF⟩
    · have hr := cnd_f c6 hr
      refine HT.skip ?_
      refine HT.seq ?_
      refine HT.text (l := ⟨_, true, .raw (.bool true)⟩ :: []) (tl := []) (by kernel_rfl) (by kernel_rfl) (by kernel_rfl) ?_ ?_
      · exact
          Obls.cons (Obl.plain rfl rfl fun R' w' hw hs hd => by exact of_assign rfl) <|
          Obls.nil
      intro R w hw hs hF'
      have h4 : R 4 = .bool true := hF' 0 _ _ rfl rfl rfl
      replace hO := hO.fr hw
      replace hA := hA.fr hw.size
      replace hF := hF.trans hw
      clear hs hF' hw
      refine seqR_nil ?_
      refine HT.ret ?_
      obtain rfl := Option.some.inj hr
      exact ⟨.inr rfl, [R 4], ⟨rfl, trivial⟩, h4, hF⟩
def M_laws_FnExactIsValidDiagram (fu : Nat) (p0 : T_laws_Diagram) : Option Bool :=
  cl true (M_laws_szDiagram fu p0 (1048576 : Int)) fun x2 =>
  bif (decide (x2 < (0 : Int))) then (
    some true
  ) else (
    cl true (M_laws_toDiagram fu p0) fun x5 =>
    cl true (M_spec_IsValidDiagram fu x5) fun x7 =>
    cl true (M_laws_toDiagram fu p0) fun x9 =>
    cl true (M_impl_IsValidDiagram fu x9) fun x14 =>
    bif (x14 != x7) then (
      some false
    ) else (
      cl true (M_laws_toDiagram fu p0) fun x17 =>
      cl true (M_laws_eqDiagram fu x9 x17) fun x19 =>
      bif (!x19) then (
        some false
      ) else (
        some true
      )
    )
  )
set_option maxRecDepth 100000 in
set_option maxHeartbeats 4000000 in
theorem M_laws_FnExactIsValidDiagram_ok {fu : Nat} {A0 : Av} {p0 : T_laws_Diagram} {r : Bool} (hr : M_laws_FnExactIsValidDiagram fu p0 = some r) {w : World} {v0 : Value} (hA : AvOK A0 w) (h0 : Rep E_laws_Diagram A0 w v0 p0) :
    Calls Try.prog 4 #[v0] w fun e w' => ∃ v, e = .returned v ∧ (v = .bool r ∧ Fr w w') := by
  unfold M_laws_FnExactIsValidDiagram at hr
  obtain ⟨w0, hw0⟩ : ∃ w0, w0 = w := ⟨_, rfl⟩
  have hF : Fr w0 w := hw0 ▸ Fr.refl _
  have hA0 : ∀ b o, A0 b o → b < w0.heap.size := fun b o h => hw0 ▸ hA b o h
  have hA00 : AvOK A0 w0 := hA0
  rw [show Fr w = Fr w0 from hw0 ▸ rfl]
  clear hw0
  obtain ⟨A, hAe⟩ : ∃ A, A = A0 := ⟨_, rfl⟩
  have hAA : ∀ b o, A0 b o → A b o := fun b o h => hAe ▸ h
  replace hA : AvOK A w := hAe ▸ hA
  have hO : IniOK [] A w := IniOK.nil
  refine calls_of_HT2 [.tmp 2] Try.func4 Try.ntmps4 (by decide) rfl rfl (Nat.le_of_ble_eq_true rfl) ?_
  intro R hR
  have f_v0 : Rep E_laws_Diagram A w v0 p0 := hAe ▸ h0
  replace h0 : R 0 = v0 := hR 0 _ rfl
  clear hR hAe
  refine HT.seq ?_
  refine HT.textR [] (⟨_, true, none, some (.box w0.heap.size 38 E_laws_Diagram p0), true, fun A => .any⟩ :: ⟨_, true, none, none, true, fun A => .raw (.bool false)⟩ :: []) (by kernel_rfl) (by kernel_rfl) (Wf.mk' (by kernel_rfl) (UAll.cons ust_any (UAll.cons ust_raw (UAll.nil))) (by kernel_rfl) (by kernel_rfl)) hO hA ?_ ?_
  · exact
      OblsR.cons (OblR.made _ rfl rfl rfl rfl fun A' R' w' ho hd => by have a0 : R' 0 = v0 := (ho.old 0 rfl).trans h0; have ra0 := (f_v0.stp ho.stp).eq a0; exact made_box ra0 (Nat.le_trans hF.size ho.ch.size)) <|
      OblsR.cons (OblR.plain rfl rfl rfl rfl fun A' R' w' ho hd => by exact of_assign rfl) <|
      OblsR.nil
  intro done ρ A R w hdn hI
  obtain ⟨b1_0, e_b1_0⟩ := hI.boxv hdn 0 rfl rfl
  have h1 : R 1 = (.pointer (some ⟨b1_0, 0, none⟩)) := (hI.opvR hdn 0 0 rfl rfl rfl rfl rfl).symm.trans e_b1_0
  replace hAA := hI.low' hAA hA0 (hO.ge (trivial))
  replace hF : Fr w0 w := Below.trans hF (hI.ch.below hF.size (hO.ge (trivial)))
  replace hO : IniOK [((.pointer (some ⟨b1_0, 0, none⟩)), .box w0.heap.size 38 E_laws_Diagram p0)] A w := hI.left hdn [(0, (.pointer (some ⟨b1_0, 0, none⟩)), .box w0.heap.size 38 E_laws_Diagram p0)] ⟨rfl, rfl, e_b1_0, rfl, trivial⟩
  replace hA := hI.avok
  clear hI
  refine HT.seq ?_
  refine HT.text (l := ⟨_, true, .raw (.int .i64 (1048576 : Int))⟩ :: []) (tl := []) (by kernel_rfl) (by kernel_rfl) (by kernel_rfl) ?_ ?_
  · exact
      Obls.cons (Obl.plain rfl rfl fun R' w' hw hs hd => by exact of_assign rfl) <|
      Obls.nil
  intro R w hw hs hF'
  replace h1 : R 1 = (.pointer (some ⟨b1_0, 0, none⟩)) := (hs 1 rfl).trans h1
  have h3 : R 3 = .int .i64 (1048576 : Int) := hF' 0 _ _ rfl rfl rfl
  replace hO := hO.fr hw
  replace hA := hA.fr hw.size
  replace hF := hF.trans hw
  clear hs hF' hw
  refine seqR_nil ?_
  refine HT.seq ?_
  obtain ⟨x2, q3, hr⟩ := cl_some hr
  refine HT.text (l := ⟨_, true, .rep E_laws_Diagram A p0⟩ :: ⟨_, true, .raw (.int .i64 (1048576 : Int))⟩ :: ⟨_, true, .raw (.int .i64 x2)⟩ :: ⟨_, true, .raw (.int .i64 x2)⟩ :: []) (tl := []) (by kernel_rfl) (by kernel_rfl) (by kernel_rfl) ?_ ?_
  · exact
      Obls.cons (Obl.plain rfl rfl fun R' w' hw hs hd => by have a0 : R' 1 = (.pointer (some ⟨b1_0, 0, none⟩)) := (hs 1 rfl).trans h1; exact (of_load_box ((hO.fr hw).ok 0 _ rfl).1 a0 (Fld.id _) rfl Try.isAgg38 Try.sizeOf38)) <|
      Obls.cons (Obl.plain rfl rfl fun R' w' hw hs hd => by have a0 : R' 3 = .int .i64 (1048576 : Int) := (hs 3 rfl).trans h3; exact of_move a0) <|
      Obls.cons (Obl.plain rfl rfl fun R' w' hw hs hd => by have a0 : Rep E_laws_Diagram A w' (R' 7) p0 := hd 0 _ _ _ rfl rfl rfl rfl rfl; have a1 : R' 8 = .int .i64 (1048576 : Int) := hd 1 _ _ _ rfl rfl rfl rfl rfl; exact of_call Try.call22 (M_laws_szDiagram_ok (q3 rfl) (hA.fr hw.size) a0 a1)) <|
      Obls.cons (Obl.plain rfl rfl fun R' w' hw hs hd => by have a0 : R' 9 = .int .i64 x2 := hd 0 _ _ _ rfl rfl rfl rfl rfl; exact of_assign a0) <|
      Obls.nil
  intro R w hw hs hF'
  replace h1 : R 1 = (.pointer (some ⟨b1_0, 0, none⟩)) := (hs 1 rfl).trans h1
  have h3 : R 3 = .int .i64 x2 := hF' 3 _ _ rfl rfl rfl
  replace hO := hO.fr hw
  replace hA := hA.fr hw.size
  replace hF := hF.trans hw
  clear hs hF' hw
  refine seqR_nil ?_
  refine HT.seq ?_
  refine HT.seq ?_
  refine HT.text (l := ⟨_, true, .raw (.int .i64 x2)⟩ :: ⟨_, true, .raw (.bool (decide (x2 < (0 : Int))))⟩ :: []) (tl := []) (by kernel_rfl) (by kernel_rfl) (by kernel_rfl) ?_ ?_
  · exact
      Obls.cons (Obl.plain rfl rfl fun R' w' hw hs hd => by have a0 : R' 3 = .int .i64 x2 := (hs 3 rfl).trans h3; exact of_move a0) <|
      Obls.cons (Obl.plain rfl rfl fun R' w' hw hs hd => by have a0 : R' 10 = .int .i64 x2 := hd 0 _ _ _ rfl rfl rfl rfl rfl; exact of_lss a0 rfl) <|
      Obls.nil
  intro R w hw hs hF'
  replace h1 : R 1 = (.pointer (some ⟨b1_0, 0, none⟩)) := (hs 1 rfl).trans h1
  have h11 : R 11 = .bool (decide (x2 < (0 : Int))) := hF' 1 _ _ rfl rfl rfl
  replace hO := hO.fr hw
  replace hA := hA.fr hw.size
  replace hF := hF.trans hw
  clear hs hF' hw
  refine seqR_nil ?_
  refine HT.cond (decide (x2 < (0 : Int))) h11 (fun c4 => ?_) (fun c4 => ?_)
  · have hr := cnd_t c4 hr
    refine HT.seq ?_
    refine HT.text (l := ⟨_, true, .raw (.bool true)⟩ :: []) (tl := []) (by kernel_rfl) (by kernel_rfl) (by kernel_rfl) ?_ ?_
    · exact
        Obls.cons (Obl.plain rfl rfl fun R' w' hw hs hd => by exact of_assign rfl) <|
        Obls.nil
    intro R w hw hs hF'
    have h2 : R 2 = .bool true := hF' 0 _ _ rfl rfl rfl
    replace hO := hO.fr hw
    replace hO : IniOK [] A w := hO.sub [] trivial
    replace hA := hA.fr hw.size
    replace hF := hF.trans hw
    clear hs hF' hw
    refine seqR_nil ?_
    refine HT.ret ?_
    obtain rfl := Option.some.inj hr
    exact ⟨.inr rfl, [R 2], ⟨rfl, trivial⟩, h2, hF⟩
  · have hr := cnd_f c4 hr
    refine HT.skip ?_
    refine HT.seq ?_
    obtain ⟨x5, q6, hr⟩ := cl_some hr
    obtain ⟨x7, q8, hr⟩ := cl_some hr
    refine HT.text (l := ⟨_, true, .rep E_laws_Diagram A p0⟩ :: ⟨_, true, .rep E_impl_Diagram A x5⟩ :: ⟨_, true, .raw (.bool x7)⟩ :: ⟨_, true, .raw (.bool x7)⟩ :: []) (tl := []) (by kernel_rfl) (by kernel_rfl) (by kernel_rfl) ?_ ?_
    · exact
        Obls.cons (Obl.plain rfl rfl fun R' w' hw hs hd => by have a0 : R' 1 = (.pointer (some ⟨b1_0, 0, none⟩)) := (hs 1 rfl).trans h1; exact (of_load_box ((hO.fr hw).ok 0 _ rfl).1 a0 (Fld.id _) rfl Try.isAgg38 Try.sizeOf38)) <|
        Obls.cons (Obl.plain rfl rfl fun R' w' hw hs hd => by have a0 : Rep E_laws_Diagram A w' (R' 12) p0 := hd 0 _ _ _ rfl rfl rfl rfl rfl; exact of_call Try.call24 (M_laws_toDiagram_ok (q6 rfl) (hA.fr hw.size) a0)) <|
        Obls.cons (Obl.plain rfl rfl fun R' w' hw hs hd => by have a0 : Rep E_impl_Diagram A w' (R' 13) x5 := hd 0 _ _ _ rfl rfl rfl rfl rfl; exact of_call Try.call23 (M_spec_IsValidDiagram_ok (q8 rfl) (hA.fr hw.size) a0)) <|
        Obls.cons (Obl.plain rfl rfl fun R' w' hw hs hd => by have a0 : R' 14 = .bool x7 := hd 0 _ _ _ rfl rfl rfl rfl rfl; exact of_assign a0) <|
        Obls.nil
    intro R w hw hs hF'
    replace h1 : R 1 = (.pointer (some ⟨b1_0, 0, none⟩)) := (hs 1 rfl).trans h1
    have h4 : R 4 = .bool x7 := hF' 3 _ _ rfl rfl rfl
    replace hO := hO.fr hw
    replace hA := hA.fr hw.size
    replace hF := hF.trans hw
    clear hs hF' hw
    refine seqR_nil ?_
    refine HT.seq ?_
    obtain ⟨x9, q10, hr⟩ := cl_some hr
    refine HT.textR [((.pointer (some ⟨b1_0, 0, none⟩)), .box w0.heap.size 38 E_laws_Diagram p0)] (⟨_, true, none, none, true, fun A => .rep E_laws_Diagram A p0⟩ :: ⟨_, true, none, none, true, fun A => .rep E_impl_Diagram A x9⟩ :: ⟨_, true, none, some (.box w0.heap.size 43 E_impl_Diagram ((0 : Int), ([] : List T_impl_DiagramNode))), true, fun A => .any⟩ :: ⟨_, true, some 3, some (.box w0.heap.size 43 E_impl_Diagram x9), false, fun A => .any⟩ :: []) (by kernel_rfl) (by kernel_rfl) (Wf.mk' (by kernel_rfl) (UAll.cons ust_rep (UAll.cons ust_rep (UAll.cons ust_any (UAll.cons ust_any (UAll.nil))))) (by kernel_rfl) (by kernel_rfl)) hO hA ?_ ?_
    · exact
        OblsR.cons (OblR.plain rfl rfl rfl rfl fun A' R' w' ho hd => by have a0 : R' 1 = (.pointer (some ⟨b1_0, 0, none⟩)) := (ho.old 1 rfl).trans h1; exact (of_load_box (ho.rd 0 _ rfl rfl) a0 (Fld.id _) rfl Try.isAgg38 Try.sizeOf38)) <|
        OblsR.cons (OblR.plain rfl rfl rfl rfl fun A' R' w' ho hd => by have a0 : Rep E_laws_Diagram A' w' (R' 15) p0 := hd 0 _ _ _ rfl rfl rfl rfl rfl; exact of_call Try.call24 (M_laws_toDiagram_ok (q10 rfl) ho.av a0)) <|
        OblsR.cons (OblR.made _ rfl rfl rfl rfl fun A' R' w' ho hd => by exact made_alloc Try.zeroValue43 (fun A w => rep_pr rep1_int rep1_nil) (Nat.le_trans hF.size ho.ch.size)) <|
        OblsR.cons (OblR.took 3 _ _ rfl rfl rfl rfl rfl fun A' R' w' ho hd u hok hav hin hop => by have a1 : Rep E_impl_Diagram A' w' (R' 16) x9 := hd 1 _ _ _ rfl rfl rfl rfl rfl; obtain ⟨b, hb, hB', hbx⟩ := hok; have hop' := hop _ _ rfl rfl rfl rfl; exact took_store a1 (hop'.symm.trans hb) hb ⟨b, hb, hB', hbx⟩ hav (FldS.id _) Try.sizeOf43 rfl) <|
        OblsR.nil
    intro done ρ A R w hdn hI
    replace h1 : R 1 = (.pointer (some ⟨b1_0, 0, none⟩)) := (hI.reg rfl).trans h1
    replace h4 : R 4 = .bool x7 := (hI.reg rfl).trans h4
    have z11 := hI.inivR 0 rfl
    obtain ⟨b5_11, e_b5_11⟩ := hI.boxv hdn 4 rfl rfl
    have z13 := (hI.opnR hdn 4 3 rfl rfl rfl rfl rfl).symm.trans e_b5_11
    have h5 : R 5 = (.pointer (some ⟨b5_11, 0, none⟩)) := (hI.opvR hdn 3 2 rfl rfl rfl rfl rfl).symm.trans z13
    replace hAA := hI.low' hAA hA0 (hO.ge (⟨rfl, trivial⟩))
    replace hF : Fr w0 w := Below.trans hF (hI.ch.below hF.size (hO.ge (⟨rfl, trivial⟩)))
    replace hO : IniOK [((.pointer (some ⟨b1_0, 0, none⟩)), .box w0.heap.size 38 E_laws_Diagram p0), ((.pointer (some ⟨b5_11, 0, none⟩)), .box w0.heap.size 43 E_impl_Diagram x9)] A w := hI.left hdn [(0, (.pointer (some ⟨b1_0, 0, none⟩)), .box w0.heap.size 38 E_laws_Diagram p0), (4, (.pointer (some ⟨b5_11, 0, none⟩)), .box w0.heap.size 43 E_impl_Diagram x9)] ⟨rfl, rfl, z11, rfl, ⟨rfl, rfl, e_b5_11, rfl, trivial⟩⟩
    replace hA := hI.avok
    clear hI
    refine HT.seq ?_
    obtain ⟨x14, q15, hr⟩ := cl_some hr
    refine HT.text (l := ⟨_, true, .rep E_impl_Diagram A x9⟩ :: ⟨_, true, .raw (.bool x14)⟩ :: ⟨_, true, .raw (.bool x14)⟩ :: []) (tl := []) (by kernel_rfl) (by kernel_rfl) (by kernel_rfl) ?_ ?_
    · exact
        Obls.cons (Obl.plain rfl rfl fun R' w' hw hs hd => by have a0 : R' 5 = (.pointer (some ⟨b5_11, 0, none⟩)) := (hs 5 rfl).trans h5; exact (of_load_box ((hO.fr hw).ok 1 _ rfl).1 a0 (Fld.id _) rfl Try.isAgg43 Try.sizeOf43)) <|
        Obls.cons (Obl.plain rfl rfl fun R' w' hw hs hd => by have a0 : Rep E_impl_Diagram A w' (R' 17) x9 := hd 0 _ _ _ rfl rfl rfl rfl rfl; exact of_call Try.call25 (M_impl_IsValidDiagram_ok (q15 rfl) (hA.fr hw.size) a0)) <|
        Obls.cons (Obl.plain rfl rfl fun R' w' hw hs hd => by have a0 : R' 18 = .bool x14 := hd 0 _ _ _ rfl rfl rfl rfl rfl; exact of_assign a0) <|
        Obls.nil
    intro R w hw hs hF'
    replace h1 : R 1 = (.pointer (some ⟨b1_0, 0, none⟩)) := (hs 1 rfl).trans h1
    replace h4 : R 4 = .bool x7 := (hs 4 rfl).trans h4
    replace h5 : R 5 = (.pointer (some ⟨b5_11, 0, none⟩)) := (hs 5 rfl).trans h5
    have h6 : R 6 = .bool x14 := hF' 2 _ _ rfl rfl rfl
    replace hO := hO.fr hw
    replace hA := hA.fr hw.size
    replace hF := hF.trans hw
    clear hs hF' hw
    refine seqR_nil ?_
    refine HT.seq ?_
    refine HT.seq ?_
    refine HT.text (l := ⟨_, true, .raw (.bool x14)⟩ :: ⟨_, true, .raw (.bool x7)⟩ :: ⟨_, true, .raw (.bool (x14 != x7))⟩ :: []) (tl := []) (by kernel_rfl) (by kernel_rfl) (by kernel_rfl) ?_ ?_
    · exact
        Obls.cons (Obl.plain rfl rfl fun R' w' hw hs hd => by have a0 : R' 6 = .bool x14 := (hs 6 rfl).trans h6; exact of_move a0) <|
        Obls.cons (Obl.plain rfl rfl fun R' w' hw hs hd => by have a0 : R' 4 = .bool x7 := (hs 4 rfl).trans h4; exact of_move a0) <|
        Obls.cons (Obl.plain rfl rfl fun R' w' hw hs hd => by have a0 : R' 19 = .bool x14 := hd 0 _ _ _ rfl rfl rfl rfl rfl; have a1 : R' 20 = .bool x7 := hd 1 _ _ _ rfl rfl rfl rfl rfl; exact of_bneq Try.underlying4 a0 a1) <|
        Obls.nil
    intro R w hw hs hF'
    replace h1 : R 1 = (.pointer (some ⟨b1_0, 0, none⟩)) := (hs 1 rfl).trans h1
    replace h5 : R 5 = (.pointer (some ⟨b5_11, 0, none⟩)) := (hs 5 rfl).trans h5
    have h21 : R 21 = .bool (x14 != x7) := hF' 2 _ _ rfl rfl rfl
    replace hO := hO.fr hw
    replace hA := hA.fr hw.size
    replace hF := hF.trans hw
    clear hs hF' hw
    refine seqR_nil ?_
    refine HT.cond (x14 != x7) h21 (fun c16 => ?_) (fun c16 => ?_)
    · have hr := cnd_t c16 hr
      refine HT.seq ?_
      refine HT.text (l := ⟨_, true, .raw (.bool false)⟩ :: []) (tl := []) (by kernel_rfl) (by kernel_rfl) (by kernel_rfl) ?_ ?_
      · exact
          Obls.cons (Obl.plain rfl rfl fun R' w' hw hs hd => by exact of_assign rfl) <|
          Obls.nil
      intro R w hw hs hF'
      have h2 : R 2 = .bool false := hF' 0 _ _ rfl rfl rfl
      replace hO := hO.fr hw
      replace hO : IniOK [] A w := hO.sub [] trivial
      replace hA := hA.fr hw.size
      replace hF := hF.trans hw
      clear hs hF' hw
      refine seqR_nil ?_
      refine HT.ret ?_
      obtain rfl := Option.some.inj hr
      exact ⟨.inr rfl, [R 2], ⟨rfl, trivial⟩, h2, hF⟩
    · have hr := cnd_f c16 hr
      refine HT.skip ?_
      refine HT.seq ?_
      refine HT.seq ?_
      obtain ⟨x17, q18, hr⟩ := cl_some hr
      obtain ⟨x19, q20, hr⟩ := cl_some hr
      refine HT.draw (by kernel_rfl) (l := ⟨_, true, .rep E_impl_Diagram A x9⟩ :: ⟨_, true, .rep E_laws_Diagram A p0⟩ :: ⟨_, true, .rep E_impl_Diagram A x17⟩ :: ⟨_, true, .raw (.bool x19)⟩ :: ⟨_, true, .raw (.bool (!x19))⟩ :: []) (tl := []) (by kernel_rfl) (by kernel_rfl) (by kernel_rfl) (by kernel_rfl) ?_ ?_
      · exact
          Obls.cons (Obl.plain rfl rfl fun R' w' hw hs hd => by have a0 : R' 5 = (.pointer (some ⟨b5_11, 0, none⟩)) := (hs 5 rfl).trans h5; exact (of_load_box ((hO.fr hw).ok 1 _ rfl).1 a0 (Fld.id _) rfl Try.isAgg43 Try.sizeOf43)) <|
          Obls.cons (Obl.plain rfl rfl fun R' w' hw hs hd => by have a0 : R' 1 = (.pointer (some ⟨b1_0, 0, none⟩)) := (hs 1 rfl).trans h1; exact (of_load_box ((hO.fr hw).ok 0 _ rfl).1 a0 (Fld.id _) rfl Try.isAgg38 Try.sizeOf38)) <|
          Obls.cons (Obl.plain rfl rfl fun R' w' hw hs hd => by have a0 : Rep E_laws_Diagram A w' (R' 23) p0 := hd 0 _ _ _ rfl rfl rfl rfl rfl; exact of_call Try.call24 (M_laws_toDiagram_ok (q18 rfl) (hA.fr hw.size) a0)) <|
          Obls.cons (Obl.plain rfl rfl fun R' w' hw hs hd => by have a0 : Rep E_impl_Diagram A w' (R' 22) x9 := hd 0 _ _ _ rfl rfl rfl rfl rfl; have a1 : Rep E_impl_Diagram A w' (R' 24) x17 := hd 1 _ _ _ rfl rfl rfl rfl rfl; exact of_call Try.call26 (M_laws_eqDiagram_ok (q20 rfl) (hA.fr hw.size) a0 a1)) <|
          Obls.cons (Obl.plain rfl rfl fun R' w' hw hs hd => by have a0 : R' 25 = .bool x19 := hd 0 _ _ _ rfl rfl rfl rfl rfl; exact of_not a0) <|
          Obls.nil
      intro R w hw hs hF'
      have h26 : R 26 = .bool (!x19) := hF' 4 _ _ rfl rfl rfl
      replace hO := hO.fr hw
      replace hO : IniOK [] A w := hO.sub [] trivial
      replace hA := hA.fr hw.size
      replace hF := hF.trans hw
      clear hs hF' hw
      refine seqR_nil ?_
      refine HT.cond (!x19) h26 (fun c21 => ?_) (fun c21 => ?_)
      · have hr := cnd_t c21 hr
        refine HT.seq ?_
        refine HT.text (l := ⟨_, true, .raw (.bool false)⟩ :: []) (tl := []) (by kernel_rfl) (by kernel_rfl) (by kernel_rfl) ?_ ?_
        · exact
            Obls.cons (Obl.plain rfl rfl fun R' w' hw hs hd => by exact of_assign rfl) <|
            Obls.nil
        intro R w hw hs hF'
        have h2 : R 2 = .bool false := hF' 0 _ _ rfl rfl rfl
        replace hO := hO.fr hw
        replace hA := hA.fr hw.size
        replace hF := hF.trans hw
        clear hs hF' hw
        refine seqR_nil ?_
        refine HT.ret ?_
        obtain rfl := Option.some.inj hr
        exact ⟨.inr rfl, [R 2], ⟨rfl, trivial⟩, h2, hF⟩
      · have hr := cnd_f c21 hr
        refine HT.skip ?_
        refine HT.seq ?_
        refine HT.text (l := ⟨_, true, .raw (.bool true)⟩ :: []) (tl := []) (by kernel_rfl) (by kernel_rfl) (by kernel_rfl) ?_ ?_
        · exact
            Obls.cons (Obl.plain rfl rfl fun R' w' hw hs hd => by exact of_assign rfl) <|
            Obls.nil
        intro R w hw hs hF'
        have h2 : R 2 = .bool true := hF' 0 _ _ rfl rfl rfl
        replace hO := hO.fr hw
        replace hA := hA.fr hw.size
        replace hF := hF.trans hw
        clear hs hF' hw
        refine seqR_nil ?_
        refine HT.ret ?_
        obtain rfl := Option.some.inj hr
        exact ⟨.inr rfl, [R 2], ⟨rfl, trivial⟩, h2, hF⟩
end Go.Proofs.Ytjfhlhhobpdneaa
