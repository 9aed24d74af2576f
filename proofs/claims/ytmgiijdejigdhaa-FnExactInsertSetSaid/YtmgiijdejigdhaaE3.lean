/- Printed by dec.py: plain functions and the proofs that the code computes them. No statement of the seat is proved here. -/
import Derived.Test.YtmgiijdejigdhaaE2
namespace Go.Proofs.Ytmgiijdejigdhaa
open Go.RowKit
set_option linter.unusedVariables false
def M_impl_IsTokenTable_L0 (fu : Nat) (p0 : List T_impl_TokenCount) : Nat → Int → Option (Ex Bool Unit)
  | 0, _ => none
  | k + 1, y4 =>
    bif (decide (y4 < (p0.length : Int))) then (
      ck (inR y4 p0.length) <|
      ck (!((true && ((decide (((gtD p0 y4).2) < (1 : Int))) == false)) && ((decide ((0 : Int) < y4)) == true)) || i64B (y4 - (1 : Int))) <|
      ck (!((true && ((decide (((gtD p0 y4).2) < (1 : Int))) == false)) && ((decide ((0 : Int) < y4)) == true)) || inR (y4 - (1 : Int)) p0.length) <|
      bd ((decide ((0 : Int) < y4)) && (!(bLt ((gtD p0 (y4 - (1 : Int))).1) ((gtD p0 y4).1)))) fun x11 =>
      bd ((decide (((gtD p0 y4).2) < (1 : Int))) || x11) fun x13 =>
      bif x13 then (
        some (Ex.ret false)
      ) else (
        ck (i64B (y4 + (1 : Int))) <|
        M_impl_IsTokenTable_L0 fu p0 k (y4 + (1 : Int))
      )
    ) else (
      some (Ex.go ())
    )
def M_impl_IsTokenTable (fu : Nat) (p0 : List T_impl_TokenCount) : Option Bool :=
  cl true (M_impl_IsTokenTable_L0 fu p0 fu (0 : Int)) fun rl1 =>
  exM rl1 (fun r => some r) fun s3 =>
  some true
set_option maxRecDepth 100000 in
set_option maxHeartbeats 4000000 in
theorem M_impl_IsTokenTable_ok {fu : Nat} {A0 : Av} {p0 : List T_impl_TokenCount} {r : Bool} (hr : M_impl_IsTokenTable fu p0 = some r) {w : World} {v0 : Value} (hA : AvOK A0 w) (h0 : Rep (eSl E_impl_TokenCount) A0 w v0 p0) :
    Calls Try.prog 49 #[v0] w fun e w' => ∃ v, e = .returned v ∧ (v = .bool r ∧ Fr w w') := by
  unfold M_impl_IsTokenTable at hr
  obtain ⟨w0, hw0⟩ : ∃ w0, w0 = w := ⟨_, rfl⟩
  have hF : Fr w0 w := hw0 ▸ Fr.refl _
  have hA0 : ∀ b o, A0 b o → b < w0.heap.size := fun b o h => hw0 ▸ hA b o h
  have hA00 : AvOK A0 w0 := hA0
  rw [show Fr w = Fr w0 from hw0 ▸ rfl]
  clear hw0
  obtain ⟨A, hAe⟩ : ∃ A, A = A0 := ⟨_, rfl⟩
  have hAA : ∀ b o, A0 b o → A b o := fun b o h => hAe ▸ h
  replace hA : AvOK A w := hAe ▸ hA
  have hO : IniOK [] A w := IniOK.nil
  refine calls_of_HT2 [.tmp 2] Try.func49 Try.ntmps49 (by decide) rfl rfl (Nat.le_of_ble_eq_true rfl) ?_
  intro R hR
  have f_v0 : Rep (eSl E_impl_TokenCount) A w v0 p0 := hAe ▸ h0
  replace h0 : R 0 = v0 := hR 0 _ rfl
  clear hR hAe
  refine HT.seq ?_
  refine HT.text (l := ⟨_, true, .raw (.bool false)⟩ :: []) (tl := []) (by kernel_rfl) (by kernel_rfl) (by kernel_rfl) ?_ ?_
  · exact
      Obls.cons (Obl.plain rfl rfl fun R' w' hw hs hd => by exact of_assign rfl) <|
      Obls.nil
  intro R w hw hs hF'
  replace h0 : R 0 = v0 := (hs 0 rfl).trans h0
  replace f_v0 := f_v0.fr hw
  replace hO := hO.fr hw
  replace hA := hA.fr hw.size
  replace hF := hF.trans hw
  clear hs hF' hw
  refine seqR_nil ?_
  refine HT.seq ?_
  refine HT.seq ?_
  refine HT.text (l := ⟨_, true, .raw v0⟩ :: ⟨_, true, .raw (.int .i64 (p0.length : Int))⟩ :: ⟨_, true, .raw (.int .i64 (0 : Int))⟩ :: []) (tl := []) (by kernel_rfl) (by kernel_rfl) (by kernel_rfl) ?_ ?_
  · exact
      Obls.cons (Obl.plain rfl rfl fun R' w' hw hs hd => by have a0 : R' 0 = v0 := (hs 0 rfl).trans h0; exact of_move a0) <|
      Obls.cons (Obl.plain rfl rfl fun R' w' hw hs hd => by have a0 : R' 5 = v0 := hd 0 _ _ _ rfl rfl rfl rfl rfl; have ra0 := (f_v0.fr hw).eq a0; exact of_len_sl (aT := #[]) ra0 Try.underlying27) <|
      Obls.cons (Obl.plain rfl rfl fun R' w' hw hs hd => by exact of_move rfl) <|
      Obls.nil
  intro R w hw hs hF'
  replace h0 : R 0 = v0 := (hs 0 rfl).trans h0
  have h5 : R 5 = v0 := hF' 0 _ _ rfl rfl rfl
  have h6 : R 6 = .int .i64 (p0.length : Int) := hF' 1 _ _ rfl rfl rfl
  have h7 : R 7 = .int .i64 (0 : Int) := hF' 2 _ _ rfl rfl rfl
  replace f_v0 := f_v0.fr hw
  replace hO := hO.fr hw
  replace hA := hA.fr hw.size
  replace hF := hF.trans hw
  clear hs hF' hw
  refine seqR_nil ?_
  obtain ⟨rl1, q2, hr⟩ := cl_some hr
  replace q2 := q2 rfl
  refine HT.cut0 (fun R w => ∃ A : Av, ∃ (s3 : Unit), rl1 = Ex.go s3 ∧ AvOK A w ∧ Fr w0 w ∧ (∀ b o, A0 b o → A b o) ∧ IniOK [] A w) ?_ ?_
  · refine HT.block ?_
    refine HT.loop (fun k R w => ∃ A : Av, ∃ (y4 : Int), M_impl_IsTokenTable_L0 fu p0 k y4 = some rl1 ∧ AvOK A w ∧ Fr w0 w ∧ (∀ b o, A0 b o → A b o) ∧ IniOK [] A w ∧ R 0 = v0 ∧ R 5 = v0 ∧ R 6 = .int .i64 (p0.length : Int) ∧ R 7 = .int .i64 y4 ∧ Rep (eSl E_impl_TokenCount) A w v0 p0) fu ⟨_, _, q2, hA, hF, hAA, hO, h0, h5, h6, h7, f_v0⟩ ?_
    have hr0 := hr; clear hr q2
    rintro k R w ⟨A, y4, hr, hA, hF, hAA, hO, h0, h5, h6, h7, f_v0⟩
    rcases k with _ | k
    · cases (show none = some _ from hr)
    rw [M_impl_IsTokenTable_L0] at hr
    refine HT.seq ?_
    refine HT.text (l := ⟨_, true, .raw (.bool (decide (y4 < (p0.length : Int))))⟩ :: []) (tl := []) (by kernel_rfl) (by kernel_rfl) (by kernel_rfl) ?_ ?_
    · exact
        Obls.cons (Obl.plain rfl rfl fun R' w' hw hs hd => by have a0 : R' 7 = .int .i64 y4 := (hs 7 rfl).trans h7; have a1 : R' 6 = .int .i64 (p0.length : Int) := (hs 6 rfl).trans h6; exact of_lss a0 a1) <|
        Obls.nil
    intro R w hw hs hF'
    replace h0 : R 0 = v0 := (hs 0 rfl).trans h0
    replace h5 : R 5 = v0 := (hs 5 rfl).trans h5
    replace h6 : R 6 = .int .i64 (p0.length : Int) := (hs 6 rfl).trans h6
    replace h7 : R 7 = .int .i64 y4 := (hs 7 rfl).trans h7
    have h8 : R 8 = .bool (decide (y4 < (p0.length : Int))) := hF' 0 _ _ rfl rfl rfl
    replace f_v0 := f_v0.fr hw
    replace hO := hO.fr hw
    replace hA := hA.fr hw.size
    replace hF := hF.trans hw
    clear hs hF' hw
    refine seqR_nil ?_
    refine HT.seq ?_
    refine HT.cond (decide (y4 < (p0.length : Int))) h8 (fun c5 => ?_) (fun c5 => ?_)
    · have hr := cnd_t c5 hr
      refine HT.skip ?_
      refine HT.seq ?_
      refine HT.block ?_
      refine HT.seq ?_
      obtain ⟨e6, hr⟩ := ck_some hr
      refine HT.textR [] (⟨_, true, [], none, true, fun A => .raw (.int .i64 y4)⟩ :: ⟨_, true, [], none, true, fun A => .qtr E_impl_TokenCount A (gtD p0 y4)⟩ :: ⟨_, true, [], none, true, fun A => .rep E_impl_TokenCount A (gtD p0 y4)⟩ :: ⟨_, true, [], some (.box w0.heap.size 70 E_impl_TokenCount (([] : List UInt8), (0 : Int))), true, fun A => .any⟩ :: ⟨_, true, [], none, true, fun A => .raw (.int .i64 y4)⟩ :: ⟨_, true, [3], some (.box w0.heap.size 70 E_impl_TokenCount (gtD p0 y4)), false, fun A => .any⟩ :: []) (by kernel_rfl) (by kernel_rfl) (Wf.mk' (by kernel_rfl) (UAll.cons ust_raw (UAll.cons ust_qtr (UAll.cons ust_rep (UAll.cons ust_any (UAll.cons ust_raw (UAll.cons ust_any (UAll.nil))))))) (by kernel_rfl) (by kernel_rfl)) hO hA ?_ ?_
      · exact
          OblsR.cons (OblR.plain rfl rfl rfl rfl fun A' R' w' ho hd => by have a0 : R' 7 = .int .i64 y4 := (ho.old 7 rfl).trans h7; exact of_move a0) <|
          OblsR.cons (OblR.plain rfl rfl rfl rfl fun A' R' w' ho hd => by have a0 : R' 5 = v0 := (ho.old 5 rfl).trans h5; have a1 : R' 7 = .int .i64 y4 := (ho.old 7 rfl).trans h7; have ra0 := (f_v0.stp ho.stp).eq a0; exact of_indexAddr ra0 a1 Try.underlying27 Try.sizeOf70 e6) <|
          OblsR.cons (OblR.plain rfl rfl rfl rfl fun A' R' w' ho hd => by have a0 : QRep E_impl_TokenCount A' w' (R' 10) (gtD p0 y4) := hd 0 _ _ _ rfl rfl rfl rfl rfl; exact (of_load a0.ptr Try.isAgg70 Try.sizeOf70)) <|
          OblsR.cons (OblR.made _ rfl rfl rfl rfl fun A' R' w' ho hd => by exact made_alloc Try.zeroValue70 (fun A w => rep_pr (rep1_str rfl (by decide)) rep1_int) (Nat.le_trans hF.size ho.ch.size)) <|
          OblsR.cons (OblR.plain rfl rfl rfl rfl fun A' R' w' ho hd => by have a0 : R' 9 = .int .i64 y4 := hd 0 _ _ _ rfl rfl rfl rfl rfl; exact of_assign a0) <|
          OblsR.cons (OblR.took 3 _ _ rfl rfl rfl rfl rfl fun A' R' w' ho hd u hok hav hin hop hds => by have a1 : Rep E_impl_TokenCount A' w' (R' 11) (gtD p0 y4) := hd 1 _ _ _ rfl rfl rfl rfl rfl; obtain ⟨b, hb, hB', hbx⟩ := hok; have hop' := hop _ _ rfl rfl rfl rfl; exact took_store a1 (hop'.symm.trans hb) hb ⟨b, hb, hB', hbx⟩ hav (FldS.id _) Try.sizeOf70 rfl) <|
          OblsR.nil
      intro done ρ σ A R w hdn hI
      replace h0 : R 0 = v0 := (hI.reg rfl).trans h0
      replace h5 : R 5 = v0 := (hI.reg rfl).trans h5
      replace h6 : R 6 = .int .i64 (p0.length : Int) := (hI.reg rfl).trans h6
      replace h7 : R 7 = .int .i64 y4 := (hI.reg rfl).trans h7
      obtain ⟨b4_6, e_b4_6⟩ := hI.boxv hdn 5 rfl rfl
      have z8 := (hI.opnR hdn 5 5 rfl rfl rfl rfl rfl).symm.trans e_b4_6
      have h4 : R 4 = (.pointer (some ⟨b4_6, 0, none⟩)) := (hI.opvR hdn 3 3 rfl rfl rfl rfl rfl).symm.trans z8
      have h3 : R 3 = .int .i64 y4 := hI.fact hdn (i := 4) rfl rfl rfl
      replace f_v0 := f_v0.stp hI.stp
      replace hAA := hI.low' hAA hA0 (hO.ge (trivial))
      replace hF : Fr w0 w := hF.tr hI.ch (hO.ge (trivial))
      replace hO : IniOK [ob (.pointer (some ⟨b4_6, 0, none⟩)) (.box w0.heap.size 70 E_impl_TokenCount (gtD p0 y4))] A w := hI.left hdn [(5, ob (.pointer (some ⟨b4_6, 0, none⟩)) (.box w0.heap.size 70 E_impl_TokenCount (gtD p0 y4)))] ⟨rfl, rfl, e_b4_6, rfl, rfl, trivial⟩
      replace hA := hI.avok
      clear hI
      refine HT.seq ?_
      obtain ⟨e9, hr⟩ := ck_some hr
      obtain ⟨e10, hr⟩ := ck_some hr
      obtain ⟨x11, q12, hr⟩ := bd_some hr
      obtain ⟨x13, q14, hr⟩ := bd_some hr
      refine HT.draw (by kernel_rfl) (l := ⟨_, true, .raw (.pointer (some ⟨b4_6, 1, none⟩))⟩ :: ⟨_, true, .raw (.int .i64 ((gtD p0 y4).2))⟩ :: ⟨_, true, .raw (.bool (decide (((gtD p0 y4).2) < (1 : Int))))⟩ :: ⟨_, true, .raw (.bool (decide (((gtD p0 y4).2) < (1 : Int))))⟩ :: ⟨_, (true && ((decide (((gtD p0 y4).2) < (1 : Int))) == false)), .raw (.int .i64 y4)⟩ :: ⟨_, (true && ((decide (((gtD p0 y4).2) < (1 : Int))) == false)), .raw (.bool (decide ((0 : Int) < y4)))⟩ :: ⟨_, (true && ((decide (((gtD p0 y4).2) < (1 : Int))) == false)), .raw (.bool (decide ((0 : Int) < y4)))⟩ :: ⟨_, ((true && ((decide (((gtD p0 y4).2) < (1 : Int))) == false)) && ((decide ((0 : Int) < y4)) == true)), .raw v0⟩ :: ⟨_, ((true && ((decide (((gtD p0 y4).2) < (1 : Int))) == false)) && ((decide ((0 : Int) < y4)) == true)), .raw (.int .i64 y4)⟩ :: ⟨_, ((true && ((decide (((gtD p0 y4).2) < (1 : Int))) == false)) && ((decide ((0 : Int) < y4)) == true)), .raw (.int .i64 (y4 - (1 : Int)))⟩ :: ⟨_, ((true && ((decide (((gtD p0 y4).2) < (1 : Int))) == false)) && ((decide ((0 : Int) < y4)) == true)), .qtr E_impl_TokenCount A (gtD p0 (y4 - (1 : Int)))⟩ :: ⟨_, ((true && ((decide (((gtD p0 y4).2) < (1 : Int))) == false)) && ((decide ((0 : Int) < y4)) == true)), .qtr eStr A ((gtD p0 (y4 - (1 : Int))).1)⟩ :: ⟨_, ((true && ((decide (((gtD p0 y4).2) < (1 : Int))) == false)) && ((decide ((0 : Int) < y4)) == true)), .rep eStr A ((gtD p0 (y4 - (1 : Int))).1)⟩ :: ⟨_, ((true && ((decide (((gtD p0 y4).2) < (1 : Int))) == false)) && ((decide ((0 : Int) < y4)) == true)), .raw (.pointer (some ⟨b4_6, 0, none⟩))⟩ :: ⟨_, ((true && ((decide (((gtD p0 y4).2) < (1 : Int))) == false)) && ((decide ((0 : Int) < y4)) == true)), .rep eStr A ((gtD p0 y4).1)⟩ :: ⟨_, ((true && ((decide (((gtD p0 y4).2) < (1 : Int))) == false)) && ((decide ((0 : Int) < y4)) == true)), .raw (.bool (!(bLt ((gtD p0 (y4 - (1 : Int))).1) ((gtD p0 y4).1))))⟩ :: ⟨_, (true && ((decide (((gtD p0 y4).2) < (1 : Int))) == false)), .raw (.bool x11)⟩ :: ⟨_, true, .raw (.bool x13)⟩ :: []) (tl := []) (by kernel_rfl) (by kernel_rfl) (by kernel_rfl) (by kernel_rfl) ?_ ?_
      · exact
          Obls.cons (Obl.plain rfl rfl fun R' w' hw hs hd => by have a0 : R' 4 = (.pointer (some ⟨b4_6, 0, none⟩)) := (hs 4 rfl).trans h4; exact of_fieldAddr_raw a0 ff_70_1 Try.sizeOf3 (by decide) rfl) <|
          Obls.cons (Obl.plain rfl rfl fun R' w' hw hs hd => by have a0 : R' 12 = (.pointer (some ⟨b4_6, 1, none⟩)) := hd 0 _ _ _ rfl rfl rfl rfl rfl; exact OpF.int (of_load_box ((hO.fr hw).ok 0 _ rfl).1 a0 fl_impl_TokenCount_1 rfl Try.isAgg3 Try.sizeOf3)) <|
          Obls.cons (Obl.plain rfl rfl fun R' w' hw hs hd => by have a0 : R' 13 = .int .i64 ((gtD p0 y4).2) := hd 0 _ _ _ rfl rfl rfl rfl rfl; exact of_lss a0 rfl) <|
          Obls.cons (Obl.plain rfl rfl fun R' w' hw hs hd => by have a0 : R' 14 = .bool (decide (((gtD p0 y4).2) < (1 : Int))) := hd 0 _ _ _ rfl rfl rfl rfl rfl; exact of_move a0) <|
          Obls.cons (Obl.grd 3 false _ _ _ rfl rfl rfl rfl rfl (by kernel_rfl) fun hg R' w' hw hs hd => by have a0 : R' 3 = .int .i64 y4 := (hs 3 rfl).trans h3; exact of_move a0) <|
          Obls.cons (Obl.grd 3 false _ _ _ rfl rfl rfl rfl rfl (by kernel_rfl) fun hg R' w' hw hs hd => by have a0 : R' 16 = .int .i64 y4 := hd 0 _ _ _ rfl rfl rfl rfl hg; exact of_gtr a0 rfl) <|
          Obls.cons (Obl.grd 3 false _ _ _ rfl rfl rfl rfl rfl (by kernel_rfl) fun hg R' w' hw hs hd => by have a0 : R' 17 = .bool (decide ((0 : Int) < y4)) := hd 0 _ _ _ rfl rfl rfl rfl hg; exact of_move a0) <|
          Obls.cons (Obl.grd 6 true _ _ _ rfl rfl rfl rfl rfl (by kernel_rfl) fun hg R' w' hw hs hd => by have a0 : R' 0 = v0 := (hs 0 rfl).trans h0; exact of_move a0) <|
          Obls.cons (Obl.grd 6 true _ _ _ rfl rfl rfl rfl rfl (by kernel_rfl) fun hg R' w' hw hs hd => by have a0 : R' 3 = .int .i64 y4 := (hs 3 rfl).trans h3; exact of_move a0) <|
          Obls.cons (Obl.grd 6 true _ _ _ rfl rfl rfl rfl rfl (by kernel_rfl) fun hg R' w' hw hs hd => by have a0 : R' 20 = .int .i64 y4 := hd 0 _ _ _ rfl rfl rfl rfl hg; exact of_sub a0 rfl (gd e9 hg)) <|
          Obls.cons (Obl.grd 6 true _ _ _ rfl rfl rfl rfl rfl (by kernel_rfl) fun hg R' w' hw hs hd => by have a0 : R' 19 = v0 := hd 0 _ _ _ rfl rfl rfl rfl hg; have a1 : R' 21 = .int .i64 (y4 - (1 : Int)) := hd 1 _ _ _ rfl rfl rfl rfl hg; have ra0 := (f_v0.fr hw).eq a0; exact of_indexAddr ra0 a1 Try.underlying27 Try.sizeOf70 (gd e10 hg)) <|
          Obls.cons (Obl.grd 6 true _ _ _ rfl rfl rfl rfl rfl (by kernel_rfl) fun hg R' w' hw hs hd => by have a0 : QRep E_impl_TokenCount A w' (R' 22) (gtD p0 (y4 - (1 : Int))) := hd 0 _ _ _ rfl rfl rfl rfl hg; exact of_fieldAddr_q a0 ff_70_0 Try.sizeOf9 (by decide) fl_impl_TokenCount_0 rfl) <|
          Obls.cons (Obl.grd 6 true _ _ _ rfl rfl rfl rfl rfl (by kernel_rfl) fun hg R' w' hw hs hd => by have a0 : QRep eStr A w' (R' 23) ((gtD p0 (y4 - (1 : Int))).1) := hd 0 _ _ _ rfl rfl rfl rfl hg; exact (of_load a0.ptr Try.isAgg9 Try.sizeOf9)) <|
          Obls.cons (Obl.grd 6 true _ _ _ rfl rfl rfl rfl rfl (by kernel_rfl) fun hg R' w' hw hs hd => by have a0 : R' 4 = (.pointer (some ⟨b4_6, 0, none⟩)) := (hs 4 rfl).trans h4; exact of_fieldAddr_raw a0 ff_70_0 Try.sizeOf9 (by decide) rfl) <|
          Obls.cons (Obl.grd 6 true _ _ _ rfl rfl rfl rfl rfl (by kernel_rfl) fun hg R' w' hw hs hd => by have a0 : R' 25 = (.pointer (some ⟨b4_6, 0, none⟩)) := hd 0 _ _ _ rfl rfl rfl rfl hg; exact (of_load_box ((hO.fr hw).ok 0 _ rfl).1 a0 fl_impl_TokenCount_0 rfl Try.isAgg9 Try.sizeOf9)) <|
          Obls.cons (Obl.grd 6 true _ _ _ rfl rfl rfl rfl rfl (by kernel_rfl) fun hg R' w' hw hs hd => by have a0 : Rep eStr A w' (R' 24) ((gtD p0 (y4 - (1 : Int))).1) := hd 0 _ _ _ rfl rfl rfl rfl hg; have a1 : Rep eStr A w' (R' 26) ((gtD p0 y4).1) := hd 1 _ _ _ rfl rfl rfl rfl hg; exact of_sgeq a0 a1) <|
          Obls.cons (Obl.grd 3 false _ _ _ rfl rfl rfl rfl rfl (by kernel_rfl) fun hg R' w' hw hs hd => by have a0 : R' 18 = .bool (decide ((0 : Int) < y4)) := hd 0 _ _ _ rfl rfl rfl rfl hg; exact of_pick (decide ((0 : Int) < y4)) a0 (fun hc => by have a1 : R' 27 = .bool (!(bLt ((gtD p0 (y4 - (1 : Int))).1) ((gtD p0 y4).1))) := hd 1 _ _ _ rfl rfl rfl rfl (g_and hg (beq_of hc)); show _ = Value.bool x11; rw [q12, hc]; exact a1) (fun hc => by show _ = Value.bool x11; rw [q12, hc]; exact rfl)) <|
          Obls.cons (Obl.plain rfl rfl fun R' w' hw hs hd => by have a0 : R' 15 = .bool (decide (((gtD p0 y4).2) < (1 : Int))) := hd 0 _ _ _ rfl rfl rfl rfl rfl; exact of_pick (decide (((gtD p0 y4).2) < (1 : Int))) a0 (fun hc => by show _ = Value.bool x13; rw [q14, hc]; exact rfl) (fun hc => by have a2 : R' 28 = .bool x11 := hd 1 _ _ _ rfl rfl rfl rfl (g_and rfl (beq_of hc)); show _ = Value.bool x13; rw [q14, hc]; exact a2)) <|
          Obls.nil
      intro R w hw hs hF'
      replace h0 : R 0 = v0 := (hs 0 rfl).trans h0
      replace h5 : R 5 = v0 := (hs 5 rfl).trans h5
      replace h6 : R 6 = .int .i64 (p0.length : Int) := (hs 6 rfl).trans h6
      replace h7 : R 7 = .int .i64 y4 := (hs 7 rfl).trans h7
      have h29 : R 29 = .bool x13 := hF' 17 _ _ rfl rfl rfl
      replace f_v0 := f_v0.fr hw
      replace hO := hO.fr hw
      replace hO : IniOK [] A w := hO.sub [] trivial
      replace hA := hA.fr hw.size
      replace hF := hF.trans hw
      clear hs hF' hw
      refine seqR_nil ?_
      refine HT.cond x13 h29 (fun c15 => ?_) (fun c15 => ?_)
      · have hr := cnd_t c15 hr
        refine HT.seq ?_
        refine HT.text (l := ⟨_, true, .raw (.bool false)⟩ :: []) (tl := []) (by kernel_rfl) (by kernel_rfl) (by kernel_rfl) ?_ ?_
        · exact
            Obls.cons (Obl.plain rfl rfl fun R' w' hw hs hd => by exact of_assign rfl) <|
            Obls.nil
        intro R w hw hs hF'
        have h2 : R 2 = .bool false := hF' 0 _ _ rfl rfl rfl
        replace hO := hO.fr hw
        replace hA := hA.fr hw.size
        replace hF := hF.trans hw
        clear hs hF' hw
        refine seqR_nil ?_
        refine HT.ret ?_
        obtain rfl := Option.some.inj hr
        have hr := hr0
        replace hr : some _ = some _ := hr
        obtain rfl := Option.some.inj hr
        exact ⟨.inr rfl, [R 2], ⟨rfl, trivial⟩, h2, hF⟩
      · have hr := cnd_f c15 hr
        refine HT.skip ?_
        obtain ⟨e16, hr⟩ := ck_some hr
        refine HT.text (l := ⟨_, true, .raw (.int .i64 (y4 + (1 : Int)))⟩ :: ⟨_, true, .raw (.int .i64 (y4 + (1 : Int)))⟩ :: []) (tl := []) (by kernel_rfl) (by kernel_rfl) (by kernel_rfl) ?_ ?_
        · exact
            Obls.cons (Obl.plain rfl rfl fun R' w' hw hs hd => by have a0 : R' 7 = .int .i64 y4 := (hs 7 rfl).trans h7; exact of_add a0 rfl e16) <|
            Obls.cons (Obl.plain rfl rfl fun R' w' hw hs hd => by have a0 : R' 30 = .int .i64 (y4 + (1 : Int)) := hd 0 _ _ _ rfl rfl rfl rfl rfl; exact of_move a0) <|
            Obls.nil
        intro R w hw hs hF'
        replace h0 : R 0 = v0 := (hs 0 rfl).trans h0
        replace h5 : R 5 = v0 := (hs 5 rfl).trans h5
        replace h6 : R 6 = .int .i64 (p0.length : Int) := (hs 6 rfl).trans h6
        have h7 : R 7 = .int .i64 (y4 + (1 : Int)) := hF' 1 _ _ rfl rfl rfl
        replace f_v0 := f_v0.fr hw
        replace hO := hO.fr hw
        replace hA := hA.fr hw.size
        replace hF := hF.trans hw
        clear hs hF' hw
        refine seqR_nil ?_
        exact Exists.intro k (And.intro (Nat.lt_succ_self k) ⟨_, _, hr, hA, hF, hAA, hO, h0, h5, h6, h7, f_v0⟩)
    · have hr := cnd_f c5 hr
      refine HT.exit ?_
      obtain rfl := Option.some.inj hr
      exact Exists.intro _ ⟨_, rfl, hA, hF, hAA, hO⟩
  rintro R w ⟨A, s3, rfl, hA, hF, hAA, hO⟩
  have hr := exM_go hr
  refine HT.seq ?_
  refine HT.text (l := ⟨_, true, .raw (.bool true)⟩ :: []) (tl := []) (by kernel_rfl) (by kernel_rfl) (by kernel_rfl) ?_ ?_
  · exact
      Obls.cons (Obl.plain rfl rfl fun R' w' hw hs hd => by exact of_assign rfl) <|
      Obls.nil
  intro R w hw hs hF'
  have h2 : R 2 = .bool true := hF' 0 _ _ rfl rfl rfl
  replace hO := hO.fr hw
  replace hA := hA.fr hw.size
  replace hF := hF.trans hw
  clear hs hF' hw
  refine seqR_nil ?_
  refine HT.ret ?_
  obtain rfl := Option.some.inj hr
  exact ⟨.inr rfl, [R 2], ⟨rfl, trivial⟩, h2, hF⟩
def M_impl_within (fu : Nat) (p0 : Int) (p1 : Int) (p2 : Int) : Option Bool :=
  bd ((decide (p1 ≤ p0)) && (decide (p0 ≤ p2))) fun x1 =>
  some x1
set_option maxRecDepth 100000 in
set_option maxHeartbeats 4000000 in
theorem M_impl_within_ok {fu : Nat} {A : Av} {p0 : Int} {p1 : Int} {p2 : Int} {r : Bool} (hr : M_impl_within fu p0 p1 p2 = some r) {w : World} {v0 : Value} {v1 : Value} {v2 : Value} (hA : AvOK A w) (h0 : v0 = .int .i64 p0) (h1 : v1 = .int .i64 p1) (h2 : v2 = .int .i64 p2) :
    Calls Try.prog 51 #[v0, v1, v2] w fun e w' => ∃ v, e = .returned v ∧ (v = .bool r ∧ Fr w w') := by
  unfold M_impl_within at hr
  obtain ⟨w0, hw0⟩ : ∃ w0, w0 = w := ⟨_, rfl⟩
  have hF : Fr w0 w := hw0 ▸ Fr.refl _
  rw [show Fr w = Fr w0 from hw0 ▸ rfl]
  clear hw0
  refine calls_of_HT2 [.tmp 6] Try.func51 Try.ntmps51 (by decide) rfl rfl (Nat.le_of_ble_eq_true rfl) ?_
  intro R hR
  replace h0 : R 0 = .int .i64 p0 := (hR 0 _ rfl).trans h0
  replace h1 : R 1 = .int .i64 p1 := (hR 1 _ rfl).trans h1
  replace h2 : R 2 = .int .i64 p2 := (hR 2 _ rfl).trans h2
  clear hR
  refine HT.seq ?_
  refine HT.text (l := ⟨_, true, .raw (.bool false)⟩ :: []) (tl := []) (by kernel_rfl) (by kernel_rfl) (by kernel_rfl) ?_ ?_
  · exact
      Obls.cons (Obl.plain rfl rfl fun R' w' hw hs hd => by exact of_assign rfl) <|
      Obls.nil
  intro R w hw hs hF'
  replace h0 : R 0 = .int .i64 p0 := (hs 0 rfl).trans h0
  replace h1 : R 1 = .int .i64 p1 := (hs 1 rfl).trans h1
  replace h2 : R 2 = .int .i64 p2 := (hs 2 rfl).trans h2
  replace hA := hA.fr hw.size
  replace hF := hF.trans hw
  clear hs hF' hw
  refine seqR_nil ?_
  refine HT.seq ?_
  obtain ⟨x1, q2, hr⟩ := bd_some hr
  refine HT.text (l := ⟨_, true, .raw (.int .i64 p0)⟩ :: ⟨_, true, .raw (.int .i64 p1)⟩ :: ⟨_, true, .raw (.bool (decide (p1 ≤ p0)))⟩ :: ⟨_, true, .raw (.bool (decide (p1 ≤ p0)))⟩ :: ⟨_, (true && ((decide (p1 ≤ p0)) == true)), .raw (.int .i64 p0)⟩ :: ⟨_, (true && ((decide (p1 ≤ p0)) == true)), .raw (.int .i64 p2)⟩ :: ⟨_, (true && ((decide (p1 ≤ p0)) == true)), .raw (.bool (decide (p0 ≤ p2)))⟩ :: ⟨_, true, .raw (.bool x1)⟩ :: ⟨_, true, .raw (.bool x1)⟩ :: []) (tl := []) (by kernel_rfl) (by kernel_rfl) (by kernel_rfl) ?_ ?_
  · exact
      Obls.cons (Obl.plain rfl rfl fun R' w' hw hs hd => by have a0 : R' 0 = .int .i64 p0 := (hs 0 rfl).trans h0; exact of_move a0) <|
      Obls.cons (Obl.plain rfl rfl fun R' w' hw hs hd => by have a0 : R' 1 = .int .i64 p1 := (hs 1 rfl).trans h1; exact of_move a0) <|
      Obls.cons (Obl.plain rfl rfl fun R' w' hw hs hd => by have a0 : R' 7 = .int .i64 p0 := hd 0 _ _ _ rfl rfl rfl rfl rfl; have a1 : R' 8 = .int .i64 p1 := hd 1 _ _ _ rfl rfl rfl rfl rfl; exact of_geq a0 a1) <|
      Obls.cons (Obl.plain rfl rfl fun R' w' hw hs hd => by have a0 : R' 9 = .bool (decide (p1 ≤ p0)) := hd 0 _ _ _ rfl rfl rfl rfl rfl; exact of_move a0) <|
      Obls.cons (Obl.grd 3 true _ _ _ rfl rfl rfl rfl rfl (by kernel_rfl) fun hg R' w' hw hs hd => by have a0 : R' 0 = .int .i64 p0 := (hs 0 rfl).trans h0; exact of_move a0) <|
      Obls.cons (Obl.grd 3 true _ _ _ rfl rfl rfl rfl rfl (by kernel_rfl) fun hg R' w' hw hs hd => by have a0 : R' 2 = .int .i64 p2 := (hs 2 rfl).trans h2; exact of_move a0) <|
      Obls.cons (Obl.grd 3 true _ _ _ rfl rfl rfl rfl rfl (by kernel_rfl) fun hg R' w' hw hs hd => by have a0 : R' 11 = .int .i64 p0 := hd 0 _ _ _ rfl rfl rfl rfl hg; have a1 : R' 12 = .int .i64 p2 := hd 1 _ _ _ rfl rfl rfl rfl hg; exact of_leq a0 a1) <|
      Obls.cons (Obl.plain rfl rfl fun R' w' hw hs hd => by have a0 : R' 10 = .bool (decide (p1 ≤ p0)) := hd 0 _ _ _ rfl rfl rfl rfl rfl; exact of_pick (decide (p1 ≤ p0)) a0 (fun hc => by have a1 : R' 13 = .bool (decide (p0 ≤ p2)) := hd 1 _ _ _ rfl rfl rfl rfl (g_and rfl (beq_of hc)); show _ = Value.bool x1; rw [q2, hc]; exact a1) (fun hc => by show _ = Value.bool x1; rw [q2, hc]; exact rfl)) <|
      Obls.cons (Obl.plain rfl rfl fun R' w' hw hs hd => by have a0 : R' 14 = .bool x1 := hd 0 _ _ _ rfl rfl rfl rfl rfl; exact of_assign a0) <|
      Obls.nil
  intro R w hw hs hF'
  have h6 : R 6 = .bool x1 := hF' 8 _ _ rfl rfl rfl
  replace hA := hA.fr hw.size
  replace hF := hF.trans hw
  clear hs hF' hw
  refine seqR_nil ?_
  refine HT.ret ?_
  obtain rfl := Option.some.inj hr
  exact ⟨.inr rfl, [R 6], ⟨rfl, trivial⟩, h6, hF⟩
def M_impl_isThreshold (fu : Nat) (p0 : Int) : Option Bool :=
  cl true (M_impl_within fu p0 (1 : Int) (1000 : Int)) fun x1 =>
  some x1
set_option maxRecDepth 100000 in
set_option maxHeartbeats 4000000 in
theorem M_impl_isThreshold_ok {fu : Nat} {A : Av} {p0 : Int} {r : Bool} (hr : M_impl_isThreshold fu p0 = some r) {w : World} {v0 : Value} (hA : AvOK A w) (h0 : v0 = .int .i64 p0) :
    Calls Try.prog 50 #[v0] w fun e w' => ∃ v, e = .returned v ∧ (v = .bool r ∧ Fr w w') := by
  unfold M_impl_isThreshold at hr
  obtain ⟨w0, hw0⟩ : ∃ w0, w0 = w := ⟨_, rfl⟩
  have hF : Fr w0 w := hw0 ▸ Fr.refl _
  rw [show Fr w = Fr w0 from hw0 ▸ rfl]
  clear hw0
  refine calls_of_HT2 [.tmp 2] Try.func50 Try.ntmps50 (by decide) rfl rfl (Nat.le_of_ble_eq_true rfl) ?_
  intro R hR
  replace h0 : R 0 = .int .i64 p0 := (hR 0 _ rfl).trans h0
  clear hR
  refine HT.seq ?_
  refine HT.text (l := ⟨_, true, .raw (.bool false)⟩ :: []) (tl := []) (by kernel_rfl) (by kernel_rfl) (by kernel_rfl) ?_ ?_
  · exact
      Obls.cons (Obl.plain rfl rfl fun R' w' hw hs hd => by exact of_assign rfl) <|
      Obls.nil
  intro R w hw hs hF'
  replace h0 : R 0 = .int .i64 p0 := (hs 0 rfl).trans h0
  replace hA := hA.fr hw.size
  replace hF := hF.trans hw
  clear hs hF' hw
  refine seqR_nil ?_
  refine HT.seq ?_
  obtain ⟨x1, q2, hr⟩ := cl_some hr
  refine HT.text (l := ⟨_, true, .raw (.int .i64 p0)⟩ :: ⟨_, true, .raw (.bool x1)⟩ :: ⟨_, true, .raw (.bool x1)⟩ :: []) (tl := []) (by kernel_rfl) (by kernel_rfl) (by kernel_rfl) ?_ ?_
  · exact
      Obls.cons (Obl.plain rfl rfl fun R' w' hw hs hd => by have a0 : R' 0 = .int .i64 p0 := (hs 0 rfl).trans h0; exact of_move a0) <|
      Obls.cons (Obl.plain rfl rfl fun R' w' hw hs hd => by have a0 : R' 3 = .int .i64 p0 := hd 0 _ _ _ rfl rfl rfl rfl rfl; exact of_call Try.call51 (M_impl_within_ok (q2 rfl) (hA.fr hw.size) a0 rfl rfl)) <|
      Obls.cons (Obl.plain rfl rfl fun R' w' hw hs hd => by have a0 : R' 4 = .bool x1 := hd 0 _ _ _ rfl rfl rfl rfl rfl; exact of_assign a0) <|
      Obls.nil
  intro R w hw hs hF'
  have h2 : R 2 = .bool x1 := hF' 2 _ _ rfl rfl rfl
  replace hA := hA.fr hw.size
  replace hF := hF.trans hw
  clear hs hF' hw
  refine seqR_nil ?_
  refine HT.ret ?_
  obtain rfl := Option.some.inj hr
  exact ⟨.inr rfl, [R 2], ⟨rfl, trivial⟩, h2, hF⟩
def M_impl_isSetID (fu : Nat) (p0 : Int) : Option Bool :=
  cl true (M_impl_within fu p0 (0 : Int) (999 : Int)) fun x1 =>
  some x1
set_option maxRecDepth 100000 in
set_option maxHeartbeats 4000000 in
theorem M_impl_isSetID_ok {fu : Nat} {A : Av} {p0 : Int} {r : Bool} (hr : M_impl_isSetID fu p0 = some r) {w : World} {v0 : Value} (hA : AvOK A w) (h0 : v0 = .int .i64 p0) :
    Calls Try.prog 27 #[v0] w fun e w' => ∃ v, e = .returned v ∧ (v = .bool r ∧ Fr w w') := by
  unfold M_impl_isSetID at hr
  obtain ⟨w0, hw0⟩ : ∃ w0, w0 = w := ⟨_, rfl⟩
  have hF : Fr w0 w := hw0 ▸ Fr.refl _
  rw [show Fr w = Fr w0 from hw0 ▸ rfl]
  clear hw0
  refine calls_of_HT2 [.tmp 2] Try.func27 Try.ntmps27 (by decide) rfl rfl (Nat.le_of_ble_eq_true rfl) ?_
  intro R hR
  replace h0 : R 0 = .int .i64 p0 := (hR 0 _ rfl).trans h0
  clear hR
  refine HT.seq ?_
  refine HT.text (l := ⟨_, true, .raw (.bool false)⟩ :: []) (tl := []) (by kernel_rfl) (by kernel_rfl) (by kernel_rfl) ?_ ?_
  · exact
      Obls.cons (Obl.plain rfl rfl fun R' w' hw hs hd => by exact of_assign rfl) <|
      Obls.nil
  intro R w hw hs hF'
  replace h0 : R 0 = .int .i64 p0 := (hs 0 rfl).trans h0
  replace hA := hA.fr hw.size
  replace hF := hF.trans hw
  clear hs hF' hw
  refine seqR_nil ?_
  refine HT.seq ?_
  obtain ⟨x1, q2, hr⟩ := cl_some hr
  refine HT.text (l := ⟨_, true, .raw (.int .i64 p0)⟩ :: ⟨_, true, .raw (.bool x1)⟩ :: ⟨_, true, .raw (.bool x1)⟩ :: []) (tl := []) (by kernel_rfl) (by kernel_rfl) (by kernel_rfl) ?_ ?_
  · exact
      Obls.cons (Obl.plain rfl rfl fun R' w' hw hs hd => by have a0 : R' 0 = .int .i64 p0 := (hs 0 rfl).trans h0; exact of_move a0) <|
      Obls.cons (Obl.plain rfl rfl fun R' w' hw hs hd => by have a0 : R' 3 = .int .i64 p0 := hd 0 _ _ _ rfl rfl rfl rfl rfl; exact of_call Try.call51 (M_impl_within_ok (q2 rfl) (hA.fr hw.size) a0 rfl rfl)) <|
      Obls.cons (Obl.plain rfl rfl fun R' w' hw hs hd => by have a0 : R' 4 = .bool x1 := hd 0 _ _ _ rfl rfl rfl rfl rfl; exact of_assign a0) <|
      Obls.nil
  intro R w hw hs hF'
  have h2 : R 2 = .bool x1 := hF' 2 _ _ rfl rfl rfl
  replace hA := hA.fr hw.size
  replace hF := hF.trans hw
  clear hs hF' hw
  refine seqR_nil ?_
  refine HT.ret ?_
  obtain rfl := Option.some.inj hr
  exact ⟨.inr rfl, [R 2], ⟨rfl, trivial⟩, h2, hF⟩
def M_impl_isSmall (fu : Nat) (p0 : Int) : Option Bool :=
  bd ((decide ((97 : Int) ≤ p0)) && (decide (p0 ≤ (122 : Int)))) fun x1 =>
  some x1
set_option maxRecDepth 100000 in
set_option maxHeartbeats 4000000 in
theorem M_impl_isSmall_ok {fu : Nat} {A : Av} {p0 : Int} {r : Bool} (hr : M_impl_isSmall fu p0 = some r) {w : World} {v0 : Value} (hA : AvOK A w) (h0 : v0 = .int .u8 p0) :
    Calls Try.prog 62 #[v0] w fun e w' => ∃ v, e = .returned v ∧ (v = .bool r ∧ Fr w w') := by
  unfold M_impl_isSmall at hr
  obtain ⟨w0, hw0⟩ : ∃ w0, w0 = w := ⟨_, rfl⟩
  have hF : Fr w0 w := hw0 ▸ Fr.refl _
  rw [show Fr w = Fr w0 from hw0 ▸ rfl]
  clear hw0
  refine calls_of_HT2 [.tmp 2] Try.func62 Try.ntmps62 (by decide) rfl rfl (Nat.le_of_ble_eq_true rfl) ?_
  intro R hR
  replace h0 : R 0 = .int .u8 p0 := (hR 0 _ rfl).trans h0
  clear hR
  refine HT.seq ?_
  refine HT.text (l := ⟨_, true, .raw (.bool false)⟩ :: []) (tl := []) (by kernel_rfl) (by kernel_rfl) (by kernel_rfl) ?_ ?_
  · exact
      Obls.cons (Obl.plain rfl rfl fun R' w' hw hs hd => by exact of_assign rfl) <|
      Obls.nil
  intro R w hw hs hF'
  replace h0 : R 0 = .int .u8 p0 := (hs 0 rfl).trans h0
  replace hA := hA.fr hw.size
  replace hF := hF.trans hw
  clear hs hF' hw
  refine seqR_nil ?_
  refine HT.seq ?_
  obtain ⟨x1, q2, hr⟩ := bd_some hr
  refine HT.text (l := ⟨_, true, .raw (.int .u8 p0)⟩ :: ⟨_, true, .raw (.bool (decide ((97 : Int) ≤ p0)))⟩ :: ⟨_, true, .raw (.bool (decide ((97 : Int) ≤ p0)))⟩ :: ⟨_, (true && ((decide ((97 : Int) ≤ p0)) == true)), .raw (.int .u8 p0)⟩ :: ⟨_, (true && ((decide ((97 : Int) ≤ p0)) == true)), .raw (.bool (decide (p0 ≤ (122 : Int))))⟩ :: ⟨_, true, .raw (.bool x1)⟩ :: ⟨_, true, .raw (.bool x1)⟩ :: []) (tl := []) (by kernel_rfl) (by kernel_rfl) (by kernel_rfl) ?_ ?_
  · exact
      Obls.cons (Obl.plain rfl rfl fun R' w' hw hs hd => by have a0 : R' 0 = .int .u8 p0 := (hs 0 rfl).trans h0; exact of_move a0) <|
      Obls.cons (Obl.plain rfl rfl fun R' w' hw hs hd => by have a0 : R' 3 = .int .u8 p0 := hd 0 _ _ _ rfl rfl rfl rfl rfl; exact of_geq a0 rfl) <|
      Obls.cons (Obl.plain rfl rfl fun R' w' hw hs hd => by have a0 : R' 4 = .bool (decide ((97 : Int) ≤ p0)) := hd 0 _ _ _ rfl rfl rfl rfl rfl; exact of_move a0) <|
      Obls.cons (Obl.grd 2 true _ _ _ rfl rfl rfl rfl rfl (by kernel_rfl) fun hg R' w' hw hs hd => by have a0 : R' 0 = .int .u8 p0 := (hs 0 rfl).trans h0; exact of_move a0) <|
      Obls.cons (Obl.grd 2 true _ _ _ rfl rfl rfl rfl rfl (by kernel_rfl) fun hg R' w' hw hs hd => by have a0 : R' 6 = .int .u8 p0 := hd 0 _ _ _ rfl rfl rfl rfl hg; exact of_leq a0 rfl) <|
      Obls.cons (Obl.plain rfl rfl fun R' w' hw hs hd => by have a0 : R' 5 = .bool (decide ((97 : Int) ≤ p0)) := hd 0 _ _ _ rfl rfl rfl rfl rfl; exact of_pick (decide ((97 : Int) ≤ p0)) a0 (fun hc => by have a1 : R' 7 = .bool (decide (p0 ≤ (122 : Int))) := hd 1 _ _ _ rfl rfl rfl rfl (g_and rfl (beq_of hc)); show _ = Value.bool x1; rw [q2, hc]; exact a1) (fun hc => by show _ = Value.bool x1; rw [q2, hc]; exact rfl)) <|
      Obls.cons (Obl.plain rfl rfl fun R' w' hw hs hd => by have a0 : R' 8 = .bool x1 := hd 0 _ _ _ rfl rfl rfl rfl rfl; exact of_assign a0) <|
      Obls.nil
  intro R w hw hs hF'
  have h2 : R 2 = .bool x1 := hF' 6 _ _ rfl rfl rfl
  replace hA := hA.fr hw.size
  replace hF := hF.trans hw
  clear hs hF' hw
  refine seqR_nil ?_
  refine HT.ret ?_
  obtain rfl := Option.some.inj hr
  exact ⟨.inr rfl, [R 2], ⟨rfl, trivial⟩, h2, hF⟩
def M_impl_isDigit (fu : Nat) (p0 : Int) : Option Bool :=
  bd ((decide ((48 : Int) ≤ p0)) && (decide (p0 ≤ (57 : Int)))) fun x1 =>
  some x1
set_option maxRecDepth 100000 in
set_option maxHeartbeats 4000000 in
theorem M_impl_isDigit_ok {fu : Nat} {A : Av} {p0 : Int} {r : Bool} (hr : M_impl_isDigit fu p0 = some r) {w : World} {v0 : Value} (hA : AvOK A w) (h0 : v0 = .int .u8 p0) :
    Calls Try.prog 63 #[v0] w fun e w' => ∃ v, e = .returned v ∧ (v = .bool r ∧ Fr w w') := by
  unfold M_impl_isDigit at hr
  obtain ⟨w0, hw0⟩ : ∃ w0, w0 = w := ⟨_, rfl⟩
  have hF : Fr w0 w := hw0 ▸ Fr.refl _
  rw [show Fr w = Fr w0 from hw0 ▸ rfl]
  clear hw0
  refine calls_of_HT2 [.tmp 2] Try.func63 Try.ntmps63 (by decide) rfl rfl (Nat.le_of_ble_eq_true rfl) ?_
  intro R hR
  replace h0 : R 0 = .int .u8 p0 := (hR 0 _ rfl).trans h0
  clear hR
  refine HT.seq ?_
  refine HT.text (l := ⟨_, true, .raw (.bool false)⟩ :: []) (tl := []) (by kernel_rfl) (by kernel_rfl) (by kernel_rfl) ?_ ?_
  · exact
      Obls.cons (Obl.plain rfl rfl fun R' w' hw hs hd => by exact of_assign rfl) <|
      Obls.nil
  intro R w hw hs hF'
  replace h0 : R 0 = .int .u8 p0 := (hs 0 rfl).trans h0
  replace hA := hA.fr hw.size
  replace hF := hF.trans hw
  clear hs hF' hw
  refine seqR_nil ?_
  refine HT.seq ?_
  obtain ⟨x1, q2, hr⟩ := bd_some hr
  refine HT.text (l := ⟨_, true, .raw (.int .u8 p0)⟩ :: ⟨_, true, .raw (.bool (decide ((48 : Int) ≤ p0)))⟩ :: ⟨_, true, .raw (.bool (decide ((48 : Int) ≤ p0)))⟩ :: ⟨_, (true && ((decide ((48 : Int) ≤ p0)) == true)), .raw (.int .u8 p0)⟩ :: ⟨_, (true && ((decide ((48 : Int) ≤ p0)) == true)), .raw (.bool (decide (p0 ≤ (57 : Int))))⟩ :: ⟨_, true, .raw (.bool x1)⟩ :: ⟨_, true, .raw (.bool x1)⟩ :: []) (tl := []) (by kernel_rfl) (by kernel_rfl) (by kernel_rfl) ?_ ?_
  · exact
      Obls.cons (Obl.plain rfl rfl fun R' w' hw hs hd => by have a0 : R' 0 = .int .u8 p0 := (hs 0 rfl).trans h0; exact of_move a0) <|
      Obls.cons (Obl.plain rfl rfl fun R' w' hw hs hd => by have a0 : R' 3 = .int .u8 p0 := hd 0 _ _ _ rfl rfl rfl rfl rfl; exact of_geq a0 rfl) <|
      Obls.cons (Obl.plain rfl rfl fun R' w' hw hs hd => by have a0 : R' 4 = .bool (decide ((48 : Int) ≤ p0)) := hd 0 _ _ _ rfl rfl rfl rfl rfl; exact of_move a0) <|
      Obls.cons (Obl.grd 2 true _ _ _ rfl rfl rfl rfl rfl (by kernel_rfl) fun hg R' w' hw hs hd => by have a0 : R' 0 = .int .u8 p0 := (hs 0 rfl).trans h0; exact of_move a0) <|
      Obls.cons (Obl.grd 2 true _ _ _ rfl rfl rfl rfl rfl (by kernel_rfl) fun hg R' w' hw hs hd => by have a0 : R' 6 = .int .u8 p0 := hd 0 _ _ _ rfl rfl rfl rfl hg; exact of_leq a0 rfl) <|
      Obls.cons (Obl.plain rfl rfl fun R' w' hw hs hd => by have a0 : R' 5 = .bool (decide ((48 : Int) ≤ p0)) := hd 0 _ _ _ rfl rfl rfl rfl rfl; exact of_pick (decide ((48 : Int) ≤ p0)) a0 (fun hc => by have a1 : R' 7 = .bool (decide (p0 ≤ (57 : Int))) := hd 1 _ _ _ rfl rfl rfl rfl (g_and rfl (beq_of hc)); show _ = Value.bool x1; rw [q2, hc]; exact a1) (fun hc => by show _ = Value.bool x1; rw [q2, hc]; exact rfl)) <|
      Obls.cons (Obl.plain rfl rfl fun R' w' hw hs hd => by have a0 : R' 8 = .bool x1 := hd 0 _ _ _ rfl rfl rfl rfl rfl; exact of_assign a0) <|
      Obls.nil
  intro R w hw hs hF'
  have h2 : R 2 = .bool x1 := hF' 6 _ _ rfl rfl rfl
  replace hA := hA.fr hw.size
  replace hF := hF.trans hw
  clear hs hF' hw
  refine seqR_nil ?_
  refine HT.ret ?_
  obtain rfl := Option.some.inj hr
  exact ⟨.inr rfl, [R 2], ⟨rfl, trivial⟩, h2, hF⟩
def M_impl_isAlphanumeric_L0 (fu : Nat) (p0 : List UInt8) : Nat → Int → Option (Ex Bool Unit)
  | 0, _ => none
  | k + 1, y4 =>
    bif (decide (y4 < (p0.length : Int))) then (
      ck (inR y4 p0.length) <|
      cl true (M_impl_isSmall fu (bAt p0 y4)) fun x7 =>
      ck (!(true && ((!x7) == true)) || inR y4 p0.length) <|
      cl (true && ((!x7) == true)) (M_impl_isDigit fu (bAt p0 y4)) fun x10 =>
      bd ((!x7) && (!x10)) fun x12 =>
      bif x12 then (
        some (Ex.ret false)
      ) else (
        ck (i64B (y4 + (1 : Int))) <|
        M_impl_isAlphanumeric_L0 fu p0 k (y4 + (1 : Int))
      )
    ) else (
      some (Ex.go ())
    )
def M_impl_isAlphanumeric (fu : Nat) (p0 : List UInt8) : Option Bool :=
  cl true (M_impl_isAlphanumeric_L0 fu p0 fu (0 : Int)) fun rl1 =>
  exM rl1 (fun r => some r) fun s3 =>
  some true
set_option maxRecDepth 100000 in
set_option maxHeartbeats 4000000 in
theorem M_impl_isAlphanumeric_ok {fu : Nat} {A : Av} {p0 : List UInt8} {r : Bool} (hr : M_impl_isAlphanumeric fu p0 = some r) {w : World} {v0 : Value} (hA : AvOK A w) (h0 : Rep eStr A w v0 p0) :
    Calls Try.prog 59 #[v0] w fun e w' => ∃ v, e = .returned v ∧ (v = .bool r ∧ Fr w w') := by
  unfold M_impl_isAlphanumeric at hr
  obtain ⟨w0, hw0⟩ : ∃ w0, w0 = w := ⟨_, rfl⟩
  have hF : Fr w0 w := hw0 ▸ Fr.refl _
  rw [show Fr w = Fr w0 from hw0 ▸ rfl]
  clear hw0
  refine calls_of_HT2 [.tmp 2] Try.func59 Try.ntmps59 (by decide) rfl rfl (Nat.le_of_ble_eq_true rfl) ?_
  intro R hR
  have f_v0 := h0
  replace h0 : R 0 = v0 := hR 0 _ rfl
  clear hR
  refine HT.seq ?_
  refine HT.text (l := ⟨_, true, .raw (.bool false)⟩ :: []) (tl := []) (by kernel_rfl) (by kernel_rfl) (by kernel_rfl) ?_ ?_
  · exact
      Obls.cons (Obl.plain rfl rfl fun R' w' hw hs hd => by exact of_assign rfl) <|
      Obls.nil
  intro R w hw hs hF'
  replace h0 : R 0 = v0 := (hs 0 rfl).trans h0
  replace f_v0 := f_v0.fr hw
  replace hA := hA.fr hw.size
  replace hF := hF.trans hw
  clear hs hF' hw
  refine seqR_nil ?_
  refine HT.seq ?_
  refine HT.seq ?_
  refine HT.text (l := ⟨_, true, .raw v0⟩ :: ⟨_, true, .raw (.int .i64 (p0.length : Int))⟩ :: ⟨_, true, .raw (.int .i64 (0 : Int))⟩ :: []) (tl := []) (by kernel_rfl) (by kernel_rfl) (by kernel_rfl) ?_ ?_
  · exact
      Obls.cons (Obl.plain rfl rfl fun R' w' hw hs hd => by have a0 : R' 0 = v0 := (hs 0 rfl).trans h0; exact of_move a0) <|
      Obls.cons (Obl.plain rfl rfl fun R' w' hw hs hd => by have a0 : R' 4 = v0 := hd 0 _ _ _ rfl rfl rfl rfl rfl; have ra0 := (f_v0.fr hw).eq a0; exact of_len_str ra0 Try.underlying9) <|
      Obls.cons (Obl.plain rfl rfl fun R' w' hw hs hd => by exact of_move rfl) <|
      Obls.nil
  intro R w hw hs hF'
  replace h0 : R 0 = v0 := (hs 0 rfl).trans h0
  have h5 : R 5 = .int .i64 (p0.length : Int) := hF' 1 _ _ rfl rfl rfl
  have h6 : R 6 = .int .i64 (0 : Int) := hF' 2 _ _ rfl rfl rfl
  replace f_v0 := f_v0.fr hw
  replace hA := hA.fr hw.size
  replace hF := hF.trans hw
  clear hs hF' hw
  refine seqR_nil ?_
  obtain ⟨rl1, q2, hr⟩ := cl_some hr
  replace q2 := q2 rfl
  refine HT.cut0 (fun R w => ∃ (s3 : Unit), rl1 = Ex.go s3 ∧ AvOK A w ∧ Fr w0 w) ?_ ?_
  · refine HT.block ?_
    refine HT.loop (fun k R w => ∃ (y4 : Int), M_impl_isAlphanumeric_L0 fu p0 k y4 = some rl1 ∧ AvOK A w ∧ Fr w0 w ∧ R 0 = v0 ∧ R 5 = .int .i64 (p0.length : Int) ∧ R 6 = .int .i64 y4 ∧ Rep eStr A w v0 p0) fu ⟨_, q2, hA, hF, h0, h5, h6, f_v0⟩ ?_
    have hr0 := hr; clear hr q2
    rintro k R w ⟨y4, hr, hA, hF, h0, h5, h6, f_v0⟩
    rcases k with _ | k
    · cases (show none = some _ from hr)
    rw [M_impl_isAlphanumeric_L0] at hr
    refine HT.seq ?_
    refine HT.text (l := ⟨_, true, .raw (.bool (decide (y4 < (p0.length : Int))))⟩ :: []) (tl := []) (by kernel_rfl) (by kernel_rfl) (by kernel_rfl) ?_ ?_
    · exact
        Obls.cons (Obl.plain rfl rfl fun R' w' hw hs hd => by have a0 : R' 6 = .int .i64 y4 := (hs 6 rfl).trans h6; have a1 : R' 5 = .int .i64 (p0.length : Int) := (hs 5 rfl).trans h5; exact of_lss a0 a1) <|
        Obls.nil
    intro R w hw hs hF'
    replace h0 : R 0 = v0 := (hs 0 rfl).trans h0
    replace h5 : R 5 = .int .i64 (p0.length : Int) := (hs 5 rfl).trans h5
    replace h6 : R 6 = .int .i64 y4 := (hs 6 rfl).trans h6
    have h7 : R 7 = .bool (decide (y4 < (p0.length : Int))) := hF' 0 _ _ rfl rfl rfl
    replace f_v0 := f_v0.fr hw
    replace hA := hA.fr hw.size
    replace hF := hF.trans hw
    clear hs hF' hw
    refine seqR_nil ?_
    refine HT.seq ?_
    refine HT.cond (decide (y4 < (p0.length : Int))) h7 (fun c5 => ?_) (fun c5 => ?_)
    · have hr := cnd_t c5 hr
      refine HT.skip ?_
      refine HT.seq ?_
      refine HT.block ?_
      refine HT.seq ?_
      refine HT.text (l := ⟨_, true, .raw (.int .i64 y4)⟩ :: ⟨_, true, .raw (.int .i64 y4)⟩ :: []) (tl := []) (by kernel_rfl) (by kernel_rfl) (by kernel_rfl) ?_ ?_
      · exact
          Obls.cons (Obl.plain rfl rfl fun R' w' hw hs hd => by have a0 : R' 6 = .int .i64 y4 := (hs 6 rfl).trans h6; exact of_move a0) <|
          Obls.cons (Obl.plain rfl rfl fun R' w' hw hs hd => by have a0 : R' 8 = .int .i64 y4 := hd 0 _ _ _ rfl rfl rfl rfl rfl; exact of_assign a0) <|
          Obls.nil
      intro R w hw hs hF'
      replace h0 : R 0 = v0 := (hs 0 rfl).trans h0
      replace h5 : R 5 = .int .i64 (p0.length : Int) := (hs 5 rfl).trans h5
      replace h6 : R 6 = .int .i64 y4 := (hs 6 rfl).trans h6
      have h3 : R 3 = .int .i64 y4 := hF' 1 _ _ rfl rfl rfl
      replace f_v0 := f_v0.fr hw
      replace hA := hA.fr hw.size
      replace hF := hF.trans hw
      clear hs hF' hw
      refine seqR_nil ?_
      refine HT.seq ?_
      obtain ⟨e6, hr⟩ := ck_some hr
      obtain ⟨x7, q8, hr⟩ := cl_some hr
      obtain ⟨e9, hr⟩ := ck_some hr
      obtain ⟨x10, q11, hr⟩ := cl_some hr
      obtain ⟨x12, q13, hr⟩ := bd_some hr
      refine HT.text (l := ⟨_, true, .raw v0⟩ :: ⟨_, true, .raw (.int .i64 y4)⟩ :: ⟨_, true, .raw (.int .u8 (bAt p0 y4))⟩ :: ⟨_, true, .raw (.bool x7)⟩ :: ⟨_, true, .raw (.bool (!x7))⟩ :: ⟨_, true, .raw (.bool (!x7))⟩ :: ⟨_, (true && ((!x7) == true)), .raw v0⟩ :: ⟨_, (true && ((!x7) == true)), .raw (.int .i64 y4)⟩ :: ⟨_, (true && ((!x7) == true)), .raw (.int .u8 (bAt p0 y4))⟩ :: ⟨_, (true && ((!x7) == true)), .raw (.bool x10)⟩ :: ⟨_, (true && ((!x7) == true)), .raw (.bool (!x10))⟩ :: ⟨_, true, .raw (.bool x12)⟩ :: []) (tl := []) (by kernel_rfl) (by kernel_rfl) (by kernel_rfl) ?_ ?_
      · exact
          Obls.cons (Obl.plain rfl rfl fun R' w' hw hs hd => by have a0 : R' 0 = v0 := (hs 0 rfl).trans h0; exact of_move a0) <|
          Obls.cons (Obl.plain rfl rfl fun R' w' hw hs hd => by have a0 : R' 3 = .int .i64 y4 := (hs 3 rfl).trans h3; exact of_move a0) <|
          Obls.cons (Obl.plain rfl rfl fun R' w' hw hs hd => by have a0 : R' 9 = v0 := hd 0 _ _ _ rfl rfl rfl rfl rfl; have ra0 := (f_v0.fr hw).eq a0; have a1 : R' 10 = .int .i64 y4 := hd 1 _ _ _ rfl rfl rfl rfl rfl; exact of_strIndex ra0 a1 Try.underlying9 e6) <|
          Obls.cons (Obl.plain rfl rfl fun R' w' hw hs hd => by have a0 : R' 11 = .int .u8 (bAt p0 y4) := hd 0 _ _ _ rfl rfl rfl rfl rfl; exact of_call Try.call62 (M_impl_isSmall_ok (q8 rfl) (hA.fr hw.size) a0)) <|
          Obls.cons (Obl.plain rfl rfl fun R' w' hw hs hd => by have a0 : R' 12 = .bool x7 := hd 0 _ _ _ rfl rfl rfl rfl rfl; exact of_not a0) <|
          Obls.cons (Obl.plain rfl rfl fun R' w' hw hs hd => by have a0 : R' 13 = .bool (!x7) := hd 0 _ _ _ rfl rfl rfl rfl rfl; exact of_move a0) <|
          Obls.cons (Obl.grd 5 true _ _ _ rfl rfl rfl rfl rfl (by kernel_rfl) fun hg R' w' hw hs hd => by have a0 : R' 0 = v0 := (hs 0 rfl).trans h0; exact of_move a0) <|
          Obls.cons (Obl.grd 5 true _ _ _ rfl rfl rfl rfl rfl (by kernel_rfl) fun hg R' w' hw hs hd => by have a0 : R' 3 = .int .i64 y4 := (hs 3 rfl).trans h3; exact of_move a0) <|
          Obls.cons (Obl.grd 5 true _ _ _ rfl rfl rfl rfl rfl (by kernel_rfl) fun hg R' w' hw hs hd => by have a0 : R' 15 = v0 := hd 0 _ _ _ rfl rfl rfl rfl hg; have ra0 := (f_v0.fr hw).eq a0; have a1 : R' 16 = .int .i64 y4 := hd 1 _ _ _ rfl rfl rfl rfl hg; exact of_strIndex ra0 a1 Try.underlying9 (gd e9 hg)) <|
          Obls.cons (Obl.grd 5 true _ _ _ rfl rfl rfl rfl rfl (by kernel_rfl) fun hg R' w' hw hs hd => by have a0 : R' 17 = .int .u8 (bAt p0 y4) := hd 0 _ _ _ rfl rfl rfl rfl hg; exact of_call Try.call63 (M_impl_isDigit_ok (q11 hg) (hA.fr hw.size) a0)) <|
          Obls.cons (Obl.grd 5 true _ _ _ rfl rfl rfl rfl rfl (by kernel_rfl) fun hg R' w' hw hs hd => by have a0 : R' 18 = .bool x10 := hd 0 _ _ _ rfl rfl rfl rfl hg; exact of_not a0) <|
          Obls.cons (Obl.plain rfl rfl fun R' w' hw hs hd => by have a0 : R' 14 = .bool (!x7) := hd 0 _ _ _ rfl rfl rfl rfl rfl; exact of_pick (!x7) a0 (fun hc => by have a1 : R' 19 = .bool (!x10) := hd 1 _ _ _ rfl rfl rfl rfl (g_and rfl (beq_of hc)); show _ = Value.bool x12; rw [q13, hc]; exact a1) (fun hc => by show _ = Value.bool x12; rw [q13, hc]; exact rfl)) <|
          Obls.nil
      intro R w hw hs hF'
      replace h0 : R 0 = v0 := (hs 0 rfl).trans h0
      replace h5 : R 5 = .int .i64 (p0.length : Int) := (hs 5 rfl).trans h5
      replace h6 : R 6 = .int .i64 y4 := (hs 6 rfl).trans h6
      have h20 : R 20 = .bool x12 := hF' 11 _ _ rfl rfl rfl
      replace f_v0 := f_v0.fr hw
      replace hA := hA.fr hw.size
      replace hF := hF.trans hw
      clear hs hF' hw
      refine seqR_nil ?_
      refine HT.cond x12 h20 (fun c14 => ?_) (fun c14 => ?_)
      · have hr := cnd_t c14 hr
        refine HT.seq ?_
        refine HT.text (l := ⟨_, true, .raw (.bool false)⟩ :: []) (tl := []) (by kernel_rfl) (by kernel_rfl) (by kernel_rfl) ?_ ?_
        · exact
            Obls.cons (Obl.plain rfl rfl fun R' w' hw hs hd => by exact of_assign rfl) <|
            Obls.nil
        intro R w hw hs hF'
        have h2 : R 2 = .bool false := hF' 0 _ _ rfl rfl rfl
        replace hA := hA.fr hw.size
        replace hF := hF.trans hw
        clear hs hF' hw
        refine seqR_nil ?_
        refine HT.ret ?_
        obtain rfl := Option.some.inj hr
        have hr := hr0
        replace hr : some _ = some _ := hr
        obtain rfl := Option.some.inj hr
        exact ⟨.inr rfl, [R 2], ⟨rfl, trivial⟩, h2, hF⟩
      · have hr := cnd_f c14 hr
        refine HT.skip ?_
        obtain ⟨e15, hr⟩ := ck_some hr
        refine HT.text (l := ⟨_, true, .raw (.int .i64 (y4 + (1 : Int)))⟩ :: ⟨_, true, .raw (.int .i64 (y4 + (1 : Int)))⟩ :: []) (tl := []) (by kernel_rfl) (by kernel_rfl) (by kernel_rfl) ?_ ?_
        · exact
            Obls.cons (Obl.plain rfl rfl fun R' w' hw hs hd => by have a0 : R' 6 = .int .i64 y4 := (hs 6 rfl).trans h6; exact of_add a0 rfl e15) <|
            Obls.cons (Obl.plain rfl rfl fun R' w' hw hs hd => by have a0 : R' 21 = .int .i64 (y4 + (1 : Int)) := hd 0 _ _ _ rfl rfl rfl rfl rfl; exact of_move a0) <|
            Obls.nil
        intro R w hw hs hF'
        replace h0 : R 0 = v0 := (hs 0 rfl).trans h0
        replace h5 : R 5 = .int .i64 (p0.length : Int) := (hs 5 rfl).trans h5
        have h6 : R 6 = .int .i64 (y4 + (1 : Int)) := hF' 1 _ _ rfl rfl rfl
        replace f_v0 := f_v0.fr hw
        replace hA := hA.fr hw.size
        replace hF := hF.trans hw
        clear hs hF' hw
        refine seqR_nil ?_
        exact Exists.intro k (And.intro (Nat.lt_succ_self k) ⟨_, hr, hA, hF, h0, h5, h6, f_v0⟩)
    · have hr := cnd_f c5 hr
      refine HT.exit ?_
      obtain rfl := Option.some.inj hr
      exact Exists.intro _ ⟨rfl, hA, hF⟩
  rintro R w ⟨s3, rfl, hA, hF⟩
  have hr := exM_go hr
  refine HT.seq ?_
  refine HT.text (l := ⟨_, true, .raw (.bool true)⟩ :: []) (tl := []) (by kernel_rfl) (by kernel_rfl) (by kernel_rfl) ?_ ?_
  · exact
      Obls.cons (Obl.plain rfl rfl fun R' w' hw hs hd => by exact of_assign rfl) <|
      Obls.nil
  intro R w hw hs hF'
  have h2 : R 2 = .bool true := hF' 0 _ _ rfl rfl rfl
  replace hA := hA.fr hw.size
  replace hF := hF.trans hw
  clear hs hF' hw
  refine seqR_nil ?_
  refine HT.ret ?_
  obtain rfl := Option.some.inj hr
  exact ⟨.inr rfl, [R 2], ⟨rfl, trivial⟩, h2, hF⟩
def M_impl_IsTokenSet_L0 (fu : Nat) (p0 : List (List UInt8)) : Nat → Int → Option (Ex Bool Unit)
  | 0, _ => none
  | k + 1, y4 =>
    bif (decide (y4 < (p0.length : Int))) then (
      ck (inR y4 p0.length) <|
      cl (true && (((gtD p0 y4) == ([] : List UInt8)) == false)) (M_impl_isAlphanumeric fu (gtD p0 y4)) fun x8 =>
      bd (((gtD p0 y4) == ([] : List UInt8)) || (!x8)) fun x10 =>
      ck (!((true && (x10 == false)) && ((decide ((0 : Int) < y4)) == true)) || i64B (y4 - (1 : Int))) <|
      ck (!((true && (x10 == false)) && ((decide ((0 : Int) < y4)) == true)) || inR (y4 - (1 : Int)) p0.length) <|
      bd ((decide ((0 : Int) < y4)) && (!(bLt (gtD p0 (y4 - (1 : Int))) (gtD p0 y4)))) fun x14 =>
      bd (x10 || x14) fun x16 =>
      bif x16 then (
        some (Ex.ret false)
      ) else (
        ck (i64B (y4 + (1 : Int))) <|
        M_impl_IsTokenSet_L0 fu p0 k (y4 + (1 : Int))
      )
    ) else (
      some (Ex.go ())
    )
def M_impl_IsTokenSet (fu : Nat) (p0 : List (List UInt8)) : Option Bool :=
  cl true (M_impl_IsTokenSet_L0 fu p0 fu (0 : Int)) fun rl1 =>
  exM rl1 (fun r => some r) fun s3 =>
  some true
set_option maxRecDepth 100000 in
set_option maxHeartbeats 4000000 in
theorem M_impl_IsTokenSet_ok {fu : Nat} {A : Av} {p0 : List (List UInt8)} {r : Bool} (hr : M_impl_IsTokenSet fu p0 = some r) {w : World} {v0 : Value} (hA : AvOK A w) (h0 : Rep (eSl eStr) A w v0 p0) :
    Calls Try.prog 38 #[v0] w fun e w' => ∃ v, e = .returned v ∧ (v = .bool r ∧ Fr w w') := by
  unfold M_impl_IsTokenSet at hr
  obtain ⟨w0, hw0⟩ : ∃ w0, w0 = w := ⟨_, rfl⟩
  have hF : Fr w0 w := hw0 ▸ Fr.refl _
  rw [show Fr w = Fr w0 from hw0 ▸ rfl]
  clear hw0
  refine calls_of_HT2 [.tmp 2] Try.func38 Try.ntmps38 (by decide) rfl rfl (Nat.le_of_ble_eq_true rfl) ?_
  intro R hR
  have f_v0 := h0
  replace h0 : R 0 = v0 := hR 0 _ rfl
  clear hR
  refine HT.seq ?_
  refine HT.text (l := ⟨_, true, .raw (.bool false)⟩ :: []) (tl := []) (by kernel_rfl) (by kernel_rfl) (by kernel_rfl) ?_ ?_
  · exact
      Obls.cons (Obl.plain rfl rfl fun R' w' hw hs hd => by exact of_assign rfl) <|
      Obls.nil
  intro R w hw hs hF'
  replace h0 : R 0 = v0 := (hs 0 rfl).trans h0
  replace f_v0 := f_v0.fr hw
  replace hA := hA.fr hw.size
  replace hF := hF.trans hw
  clear hs hF' hw
  refine seqR_nil ?_
  refine HT.seq ?_
  refine HT.seq ?_
  refine HT.text (l := ⟨_, true, .raw v0⟩ :: ⟨_, true, .raw (.int .i64 (p0.length : Int))⟩ :: ⟨_, true, .raw (.int .i64 (0 : Int))⟩ :: []) (tl := []) (by kernel_rfl) (by kernel_rfl) (by kernel_rfl) ?_ ?_
  · exact
      Obls.cons (Obl.plain rfl rfl fun R' w' hw hs hd => by have a0 : R' 0 = v0 := (hs 0 rfl).trans h0; exact of_move a0) <|
      Obls.cons (Obl.plain rfl rfl fun R' w' hw hs hd => by have a0 : R' 5 = v0 := hd 0 _ _ _ rfl rfl rfl rfl rfl; have ra0 := (f_v0.fr hw).eq a0; exact of_len_sl (aT := #[]) ra0 Try.underlying37) <|
      Obls.cons (Obl.plain rfl rfl fun R' w' hw hs hd => by exact of_move rfl) <|
      Obls.nil
  intro R w hw hs hF'
  replace h0 : R 0 = v0 := (hs 0 rfl).trans h0
  have h5 : R 5 = v0 := hF' 0 _ _ rfl rfl rfl
  have h6 : R 6 = .int .i64 (p0.length : Int) := hF' 1 _ _ rfl rfl rfl
  have h7 : R 7 = .int .i64 (0 : Int) := hF' 2 _ _ rfl rfl rfl
  replace f_v0 := f_v0.fr hw
  replace hA := hA.fr hw.size
  replace hF := hF.trans hw
  clear hs hF' hw
  refine seqR_nil ?_
  obtain ⟨rl1, q2, hr⟩ := cl_some hr
  replace q2 := q2 rfl
  refine HT.cut0 (fun R w => ∃ (s3 : Unit), rl1 = Ex.go s3 ∧ AvOK A w ∧ Fr w0 w) ?_ ?_
  · refine HT.block ?_
    refine HT.loop (fun k R w => ∃ (y4 : Int), M_impl_IsTokenSet_L0 fu p0 k y4 = some rl1 ∧ AvOK A w ∧ Fr w0 w ∧ R 0 = v0 ∧ R 5 = v0 ∧ R 6 = .int .i64 (p0.length : Int) ∧ R 7 = .int .i64 y4 ∧ Rep (eSl eStr) A w v0 p0) fu ⟨_, q2, hA, hF, h0, h5, h6, h7, f_v0⟩ ?_
    have hr0 := hr; clear hr q2
    rintro k R w ⟨y4, hr, hA, hF, h0, h5, h6, h7, f_v0⟩
    rcases k with _ | k
    · cases (show none = some _ from hr)
    rw [M_impl_IsTokenSet_L0] at hr
    refine HT.seq ?_
    refine HT.text (l := ⟨_, true, .raw (.bool (decide (y4 < (p0.length : Int))))⟩ :: []) (tl := []) (by kernel_rfl) (by kernel_rfl) (by kernel_rfl) ?_ ?_
    · exact
        Obls.cons (Obl.plain rfl rfl fun R' w' hw hs hd => by have a0 : R' 7 = .int .i64 y4 := (hs 7 rfl).trans h7; have a1 : R' 6 = .int .i64 (p0.length : Int) := (hs 6 rfl).trans h6; exact of_lss a0 a1) <|
        Obls.nil
    intro R w hw hs hF'
    replace h0 : R 0 = v0 := (hs 0 rfl).trans h0
    replace h5 : R 5 = v0 := (hs 5 rfl).trans h5
    replace h6 : R 6 = .int .i64 (p0.length : Int) := (hs 6 rfl).trans h6
    replace h7 : R 7 = .int .i64 y4 := (hs 7 rfl).trans h7
    have h8 : R 8 = .bool (decide (y4 < (p0.length : Int))) := hF' 0 _ _ rfl rfl rfl
    replace f_v0 := f_v0.fr hw
    replace hA := hA.fr hw.size
    replace hF := hF.trans hw
    clear hs hF' hw
    refine seqR_nil ?_
    refine HT.seq ?_
    refine HT.cond (decide (y4 < (p0.length : Int))) h8 (fun c5 => ?_) (fun c5 => ?_)
    · have hr := cnd_t c5 hr
      refine HT.skip ?_
      refine HT.seq ?_
      refine HT.block ?_
      refine HT.seq ?_
      obtain ⟨e6, hr⟩ := ck_some hr
      refine HT.text (l := ⟨_, true, .raw (.int .i64 y4)⟩ :: ⟨_, true, .qtr eStr A (gtD p0 y4)⟩ :: ⟨_, true, .rep eStr A (gtD p0 y4)⟩ :: ⟨_, true, .raw (.int .i64 y4)⟩ :: ⟨_, true, .rep eStr A (gtD p0 y4)⟩ :: []) (tl := []) (by kernel_rfl) (by kernel_rfl) (by kernel_rfl) ?_ ?_
      · exact
          Obls.cons (Obl.plain rfl rfl fun R' w' hw hs hd => by have a0 : R' 7 = .int .i64 y4 := (hs 7 rfl).trans h7; exact of_move a0) <|
          Obls.cons (Obl.plain rfl rfl fun R' w' hw hs hd => by have a0 : R' 5 = v0 := (hs 5 rfl).trans h5; have a1 : R' 7 = .int .i64 y4 := (hs 7 rfl).trans h7; have ra0 := (f_v0.fr hw).eq a0; exact of_indexAddr ra0 a1 Try.underlying37 Try.sizeOf9 e6) <|
          Obls.cons (Obl.plain rfl rfl fun R' w' hw hs hd => by have a0 : QRep eStr A w' (R' 10) (gtD p0 y4) := hd 0 _ _ _ rfl rfl rfl rfl rfl; exact (of_load a0.ptr Try.isAgg9 Try.sizeOf9)) <|
          Obls.cons (Obl.plain rfl rfl fun R' w' hw hs hd => by have a0 : R' 9 = .int .i64 y4 := hd 0 _ _ _ rfl rfl rfl rfl rfl; exact of_assign a0) <|
          Obls.cons (Obl.plain rfl rfl fun R' w' hw hs hd => by have a0 : Rep eStr A w' (R' 11) (gtD p0 y4) := hd 0 _ _ _ rfl rfl rfl rfl rfl; exact of_assign a0) <|
          Obls.nil
      intro R w hw hs hF'
      replace h0 : R 0 = v0 := (hs 0 rfl).trans h0
      replace h5 : R 5 = v0 := (hs 5 rfl).trans h5
      replace h6 : R 6 = .int .i64 (p0.length : Int) := (hs 6 rfl).trans h6
      replace h7 : R 7 = .int .i64 y4 := (hs 7 rfl).trans h7
      have h3 : R 3 = .int .i64 y4 := hF' 3 _ _ rfl rfl rfl
      obtain ⟨u7, h4, f_u7⟩ : ∃ u, R 4 = u ∧ Rep eStr A w u (gtD p0 y4) := ⟨_, rfl, hF' 4 _ _ rfl rfl rfl⟩
      replace f_v0 := f_v0.fr hw
      replace hA := hA.fr hw.size
      replace hF := hF.trans hw
      clear hs hF' hw
      refine seqR_nil ?_
      refine HT.seq ?_
      obtain ⟨x8, q9, hr⟩ := cl_some hr
      obtain ⟨x10, q11, hr⟩ := bd_some hr
      obtain ⟨e12, hr⟩ := ck_some hr
      obtain ⟨e13, hr⟩ := ck_some hr
      obtain ⟨x14, q15, hr⟩ := bd_some hr
      obtain ⟨x16, q17, hr⟩ := bd_some hr
      refine HT.text (l := ⟨_, true, .raw u7⟩ :: ⟨_, true, .raw (.bool ((gtD p0 y4) == ([] : List UInt8)))⟩ :: ⟨_, true, .raw (.bool ((gtD p0 y4) == ([] : List UInt8)))⟩ :: ⟨_, (true && (((gtD p0 y4) == ([] : List UInt8)) == false)), .raw u7⟩ :: ⟨_, (true && (((gtD p0 y4) == ([] : List UInt8)) == false)), .raw (.bool x8)⟩ :: ⟨_, (true && (((gtD p0 y4) == ([] : List UInt8)) == false)), .raw (.bool (!x8))⟩ :: ⟨_, true, .raw (.bool x10)⟩ :: ⟨_, true, .raw (.bool x10)⟩ :: ⟨_, (true && (x10 == false)), .raw (.int .i64 y4)⟩ :: ⟨_, (true && (x10 == false)), .raw (.bool (decide ((0 : Int) < y4)))⟩ :: ⟨_, (true && (x10 == false)), .raw (.bool (decide ((0 : Int) < y4)))⟩ :: ⟨_, ((true && (x10 == false)) && ((decide ((0 : Int) < y4)) == true)), .raw v0⟩ :: ⟨_, ((true && (x10 == false)) && ((decide ((0 : Int) < y4)) == true)), .raw (.int .i64 y4)⟩ :: ⟨_, ((true && (x10 == false)) && ((decide ((0 : Int) < y4)) == true)), .raw (.int .i64 (y4 - (1 : Int)))⟩ :: ⟨_, ((true && (x10 == false)) && ((decide ((0 : Int) < y4)) == true)), .qtr eStr A (gtD p0 (y4 - (1 : Int)))⟩ :: ⟨_, ((true && (x10 == false)) && ((decide ((0 : Int) < y4)) == true)), .rep eStr A (gtD p0 (y4 - (1 : Int)))⟩ :: ⟨_, ((true && (x10 == false)) && ((decide ((0 : Int) < y4)) == true)), .raw u7⟩ :: ⟨_, ((true && (x10 == false)) && ((decide ((0 : Int) < y4)) == true)), .raw (.bool (!(bLt (gtD p0 (y4 - (1 : Int))) (gtD p0 y4))))⟩ :: ⟨_, (true && (x10 == false)), .raw (.bool x14)⟩ :: ⟨_, true, .raw (.bool x16)⟩ :: []) (tl := []) (by kernel_rfl) (by kernel_rfl) (by kernel_rfl) ?_ ?_
      · exact
          Obls.cons (Obl.plain rfl rfl fun R' w' hw hs hd => by have a0 : R' 4 = u7 := (hs 4 rfl).trans h4; exact of_move a0) <|
          Obls.cons (Obl.plain rfl rfl fun R' w' hw hs hd => by have a0 : R' 12 = u7 := hd 0 _ _ _ rfl rfl rfl rfl rfl; have ra0 := (f_u7.fr hw).eq a0; exact of_seql ra0 ⟨_, rfl, ⟨_, rfl, rfl, by decide⟩⟩) <|
          Obls.cons (Obl.plain rfl rfl fun R' w' hw hs hd => by have a0 : R' 13 = .bool ((gtD p0 y4) == ([] : List UInt8)) := hd 0 _ _ _ rfl rfl rfl rfl rfl; exact of_move a0) <|
          Obls.cons (Obl.grd 2 false _ _ _ rfl rfl rfl rfl rfl (by kernel_rfl) fun hg R' w' hw hs hd => by have a0 : R' 4 = u7 := (hs 4 rfl).trans h4; exact of_move a0) <|
          Obls.cons (Obl.grd 2 false _ _ _ rfl rfl rfl rfl rfl (by kernel_rfl) fun hg R' w' hw hs hd => by have a0 : R' 15 = u7 := hd 0 _ _ _ rfl rfl rfl rfl hg; have ra0 := (f_u7.fr hw).eq a0; exact of_call Try.call59 (M_impl_isAlphanumeric_ok (q9 hg) (hA.fr hw.size) ra0)) <|
          Obls.cons (Obl.grd 2 false _ _ _ rfl rfl rfl rfl rfl (by kernel_rfl) fun hg R' w' hw hs hd => by have a0 : R' 16 = .bool x8 := hd 0 _ _ _ rfl rfl rfl rfl hg; exact of_not a0) <|
          Obls.cons (Obl.plain rfl rfl fun R' w' hw hs hd => by have a0 : R' 14 = .bool ((gtD p0 y4) == ([] : List UInt8)) := hd 0 _ _ _ rfl rfl rfl rfl rfl; exact of_pick ((gtD p0 y4) == ([] : List UInt8)) a0 (fun hc => by show _ = Value.bool x10; rw [q11, hc]; exact rfl) (fun hc => by have a2 : R' 17 = .bool (!x8) := hd 1 _ _ _ rfl rfl rfl rfl (g_and rfl (beq_of hc)); show _ = Value.bool x10; rw [q11, hc]; exact a2)) <|
          Obls.cons (Obl.plain rfl rfl fun R' w' hw hs hd => by have a0 : R' 18 = .bool x10 := hd 0 _ _ _ rfl rfl rfl rfl rfl; exact of_move a0) <|
          Obls.cons (Obl.grd 7 false _ _ _ rfl rfl rfl rfl rfl (by kernel_rfl) fun hg R' w' hw hs hd => by have a0 : R' 3 = .int .i64 y4 := (hs 3 rfl).trans h3; exact of_move a0) <|
          Obls.cons (Obl.grd 7 false _ _ _ rfl rfl rfl rfl rfl (by kernel_rfl) fun hg R' w' hw hs hd => by have a0 : R' 20 = .int .i64 y4 := hd 0 _ _ _ rfl rfl rfl rfl hg; exact of_gtr a0 rfl) <|
          Obls.cons (Obl.grd 7 false _ _ _ rfl rfl rfl rfl rfl (by kernel_rfl) fun hg R' w' hw hs hd => by have a0 : R' 21 = .bool (decide ((0 : Int) < y4)) := hd 0 _ _ _ rfl rfl rfl rfl hg; exact of_move a0) <|
          Obls.cons (Obl.grd 10 true _ _ _ rfl rfl rfl rfl rfl (by kernel_rfl) fun hg R' w' hw hs hd => by have a0 : R' 0 = v0 := (hs 0 rfl).trans h0; exact of_move a0) <|
          Obls.cons (Obl.grd 10 true _ _ _ rfl rfl rfl rfl rfl (by kernel_rfl) fun hg R' w' hw hs hd => by have a0 : R' 3 = .int .i64 y4 := (hs 3 rfl).trans h3; exact of_move a0) <|
          Obls.cons (Obl.grd 10 true _ _ _ rfl rfl rfl rfl rfl (by kernel_rfl) fun hg R' w' hw hs hd => by have a0 : R' 24 = .int .i64 y4 := hd 0 _ _ _ rfl rfl rfl rfl hg; exact of_sub a0 rfl (gd e12 hg)) <|
          Obls.cons (Obl.grd 10 true _ _ _ rfl rfl rfl rfl rfl (by kernel_rfl) fun hg R' w' hw hs hd => by have a0 : R' 23 = v0 := hd 0 _ _ _ rfl rfl rfl rfl hg; have a1 : R' 25 = .int .i64 (y4 - (1 : Int)) := hd 1 _ _ _ rfl rfl rfl rfl hg; have ra0 := (f_v0.fr hw).eq a0; exact of_indexAddr ra0 a1 Try.underlying37 Try.sizeOf9 (gd e13 hg)) <|
          Obls.cons (Obl.grd 10 true _ _ _ rfl rfl rfl rfl rfl (by kernel_rfl) fun hg R' w' hw hs hd => by have a0 : QRep eStr A w' (R' 26) (gtD p0 (y4 - (1 : Int))) := hd 0 _ _ _ rfl rfl rfl rfl hg; exact (of_load a0.ptr Try.isAgg9 Try.sizeOf9)) <|
          Obls.cons (Obl.grd 10 true _ _ _ rfl rfl rfl rfl rfl (by kernel_rfl) fun hg R' w' hw hs hd => by have a0 : R' 4 = u7 := (hs 4 rfl).trans h4; exact of_move a0) <|
          Obls.cons (Obl.grd 10 true _ _ _ rfl rfl rfl rfl rfl (by kernel_rfl) fun hg R' w' hw hs hd => by have a0 : Rep eStr A w' (R' 27) (gtD p0 (y4 - (1 : Int))) := hd 0 _ _ _ rfl rfl rfl rfl hg; have a1 : R' 28 = u7 := hd 1 _ _ _ rfl rfl rfl rfl hg; have ra1 := (f_u7.fr hw).eq a1; exact of_sgeq a0 ra1) <|
          Obls.cons (Obl.grd 7 false _ _ _ rfl rfl rfl rfl rfl (by kernel_rfl) fun hg R' w' hw hs hd => by have a0 : R' 22 = .bool (decide ((0 : Int) < y4)) := hd 0 _ _ _ rfl rfl rfl rfl hg; exact of_pick (decide ((0 : Int) < y4)) a0 (fun hc => by have a1 : R' 29 = .bool (!(bLt (gtD p0 (y4 - (1 : Int))) (gtD p0 y4))) := hd 1 _ _ _ rfl rfl rfl rfl (g_and hg (beq_of hc)); show _ = Value.bool x14; rw [q15, hc]; exact a1) (fun hc => by show _ = Value.bool x14; rw [q15, hc]; exact rfl)) <|
          Obls.cons (Obl.plain rfl rfl fun R' w' hw hs hd => by have a0 : R' 19 = .bool x10 := hd 0 _ _ _ rfl rfl rfl rfl rfl; exact of_pick x10 a0 (fun hc => by show _ = Value.bool x16; rw [q17, hc]; exact rfl) (fun hc => by have a2 : R' 30 = .bool x14 := hd 1 _ _ _ rfl rfl rfl rfl (g_and rfl (beq_of hc)); show _ = Value.bool x16; rw [q17, hc]; exact a2)) <|
          Obls.nil
      intro R w hw hs hF'
      replace h0 : R 0 = v0 := (hs 0 rfl).trans h0
      replace h5 : R 5 = v0 := (hs 5 rfl).trans h5
      replace h6 : R 6 = .int .i64 (p0.length : Int) := (hs 6 rfl).trans h6
      replace h7 : R 7 = .int .i64 y4 := (hs 7 rfl).trans h7
      have h31 : R 31 = .bool x16 := hF' 19 _ _ rfl rfl rfl
      replace f_v0 := f_v0.fr hw
      replace hA := hA.fr hw.size
      replace hF := hF.trans hw
      clear hs hF' hw
      refine seqR_nil ?_
      refine HT.cond x16 h31 (fun c18 => ?_) (fun c18 => ?_)
      · have hr := cnd_t c18 hr
        refine HT.seq ?_
        refine HT.text (l := ⟨_, true, .raw (.bool false)⟩ :: []) (tl := []) (by kernel_rfl) (by kernel_rfl) (by kernel_rfl) ?_ ?_
        · exact
            Obls.cons (Obl.plain rfl rfl fun R' w' hw hs hd => by exact of_assign rfl) <|
            Obls.nil
        intro R w hw hs hF'
        have h2 : R 2 = .bool false := hF' 0 _ _ rfl rfl rfl
        replace hA := hA.fr hw.size
        replace hF := hF.trans hw
        clear hs hF' hw
        refine seqR_nil ?_
        refine HT.ret ?_
        obtain rfl := Option.some.inj hr
        have hr := hr0
        replace hr : some _ = some _ := hr
        obtain rfl := Option.some.inj hr
        exact ⟨.inr rfl, [R 2], ⟨rfl, trivial⟩, h2, hF⟩
      · have hr := cnd_f c18 hr
        refine HT.skip ?_
        obtain ⟨e19, hr⟩ := ck_some hr
        refine HT.text (l := ⟨_, true, .raw (.int .i64 (y4 + (1 : Int)))⟩ :: ⟨_, true, .raw (.int .i64 (y4 + (1 : Int)))⟩ :: []) (tl := []) (by kernel_rfl) (by kernel_rfl) (by kernel_rfl) ?_ ?_
        · exact
            Obls.cons (Obl.plain rfl rfl fun R' w' hw hs hd => by have a0 : R' 7 = .int .i64 y4 := (hs 7 rfl).trans h7; exact of_add a0 rfl e19) <|
            Obls.cons (Obl.plain rfl rfl fun R' w' hw hs hd => by have a0 : R' 32 = .int .i64 (y4 + (1 : Int)) := hd 0 _ _ _ rfl rfl rfl rfl rfl; exact of_move a0) <|
            Obls.nil
        intro R w hw hs hF'
        replace h0 : R 0 = v0 := (hs 0 rfl).trans h0
        replace h5 : R 5 = v0 := (hs 5 rfl).trans h5
        replace h6 : R 6 = .int .i64 (p0.length : Int) := (hs 6 rfl).trans h6
        have h7 : R 7 = .int .i64 (y4 + (1 : Int)) := hF' 1 _ _ rfl rfl rfl
        replace f_v0 := f_v0.fr hw
        replace hA := hA.fr hw.size
        replace hF := hF.trans hw
        clear hs hF' hw
        refine seqR_nil ?_
        exact Exists.intro k (And.intro (Nat.lt_succ_self k) ⟨_, hr, hA, hF, h0, h5, h6, h7, f_v0⟩)
    · have hr := cnd_f c5 hr
      refine HT.exit ?_
      obtain rfl := Option.some.inj hr
      exact Exists.intro _ ⟨rfl, hA, hF⟩
  rintro R w ⟨s3, rfl, hA, hF⟩
  have hr := exM_go hr
  refine HT.seq ?_
  refine HT.text (l := ⟨_, true, .raw (.bool true)⟩ :: []) (tl := []) (by kernel_rfl) (by kernel_rfl) (by kernel_rfl) ?_ ?_
  · exact
      Obls.cons (Obl.plain rfl rfl fun R' w' hw hs hd => by exact of_assign rfl) <|
      Obls.nil
  intro R w hw hs hF'
  have h2 : R 2 = .bool true := hF' 0 _ _ rfl rfl rfl
  replace hA := hA.fr hw.size
  replace hF := hF.trans hw
  clear hs hF' hw
  refine seqR_nil ?_
  refine HT.ret ?_
  obtain rfl := Option.some.inj hr
  exact ⟨.inr rfl, [R 2], ⟨rfl, trivial⟩, h2, hF⟩
def M_impl_IsValidSetIndex_L0 (fu : Nat) (p0 : T_impl_SetIndex) : Nat → Int → Option (Ex Bool Unit)
  | 0, _ => none
  | k + 1, y15 =>
    bif (decide (y15 < (p0.2.2.length : Int))) then (
      ck (inR y15 p0.2.2.length) <|
      cl true (M_impl_isSetID fu ((gtD p0.2.2 y15).1)) fun x21 =>
      cl (true && ((!x21) == false)) (M_impl_IsTokenSet fu ((gtD p0.2.2 y15).2)) fun x23 =>
      bd ((!x21) || (!x23)) fun x25 =>
      ck (!((true && (x25 == false)) && ((decide ((0 : Int) < y15)) == true)) || i64B (y15 - (1 : Int))) <|
      ck (!((true && (x25 == false)) && ((decide ((0 : Int) < y15)) == true)) || inR (y15 - (1 : Int)) p0.2.2.length) <|
      bd ((decide ((0 : Int) < y15)) && (decide (((gtD p0.2.2 y15).1) ≤ ((gtD p0.2.2 (y15 - (1 : Int))).1)))) fun x29 =>
      bd (x25 || x29) fun x31 =>
      bif x31 then (
        some (Ex.ret false)
      ) else (
        ck (i64B (y15 + (1 : Int))) <|
        M_impl_IsValidSetIndex_L0 fu p0 k (y15 + (1 : Int))
      )
    ) else (
      some (Ex.go ())
    )
def M_impl_IsValidSetIndex (fu : Nat) (p0 : T_impl_SetIndex) : Option Bool :=
  cl true (M_impl_IsTokenTable fu p0.2.1) fun x2 =>
  cl (true && ((!x2) == false)) (M_impl_isThreshold fu p0.1) fun x4 =>
  bd ((!x2) || (!x4)) fun x6 =>
  bd (x6 || (decide ((12 : Int) < (p0.2.2.length : Int)))) fun x8 =>
  bif x8 then (
    some false
  ) else (
    cl true (M_impl_IsValidSetIndex_L0 fu p0 fu (0 : Int)) fun rl12 =>
    exM rl12 (fun r => some r) fun s14 =>
    some true
  )
set_option maxRecDepth 100000 in
set_option maxHeartbeats 4000000 in
theorem M_impl_IsValidSetIndex_ok {fu : Nat} {A0 : Av} {p0 : T_impl_SetIndex} {r : Bool} (hr : M_impl_IsValidSetIndex fu p0 = some r) {w : World} {v0 : Value} (hA : AvOK A0 w) (h0 : Rep E_impl_SetIndex A0 w v0 p0) :
    Calls Try.prog 26 #[v0] w fun e w' => ∃ v, e = .returned v ∧ (v = .bool r ∧ Fr w w') := by
  unfold M_impl_IsValidSetIndex at hr
  obtain ⟨w0, hw0⟩ : ∃ w0, w0 = w := ⟨_, rfl⟩
  have hF : Fr w0 w := hw0 ▸ Fr.refl _
  have hA0 : ∀ b o, A0 b o → b < w0.heap.size := fun b o h => hw0 ▸ hA b o h
  have hA00 : AvOK A0 w0 := hA0
  rw [show Fr w = Fr w0 from hw0 ▸ rfl]
  clear hw0
  obtain ⟨A, hAe⟩ : ∃ A, A = A0 := ⟨_, rfl⟩
  have hAA : ∀ b o, A0 b o → A b o := fun b o h => hAe ▸ h
  replace hA : AvOK A w := hAe ▸ hA
  have hO : IniOK [] A w := IniOK.nil
  refine calls_of_HT2 [.tmp 2] Try.func26 Try.ntmps26 (by decide) rfl rfl (Nat.le_of_ble_eq_true rfl) ?_
  intro R hR
  have f_v0 : Rep E_impl_SetIndex A w v0 p0 := hAe ▸ h0
  replace h0 : R 0 = v0 := hR 0 _ rfl
  clear hR hAe
  refine HT.seq ?_
  refine HT.textR [] (⟨_, true, [], some (.box w0.heap.size 30 E_impl_SetIndex p0), true, fun A => .any⟩ :: ⟨_, true, [], none, true, fun A => .raw (.bool false)⟩ :: []) (by kernel_rfl) (by kernel_rfl) (Wf.mk' (by kernel_rfl) (UAll.cons ust_any (UAll.cons ust_raw (UAll.nil))) (by kernel_rfl) (by kernel_rfl)) hO hA ?_ ?_
  · exact
      OblsR.cons (OblR.made _ rfl rfl rfl rfl fun A' R' w' ho hd => by have a0 : R' 0 = v0 := (ho.old 0 rfl).trans h0; have ra0 := (f_v0.stp ho.stp).eq a0; exact made_box ra0 (Nat.le_trans hF.size ho.ch.size)) <|
      OblsR.cons (OblR.plain rfl rfl rfl rfl fun A' R' w' ho hd => by exact of_assign rfl) <|
      OblsR.nil
  intro done ρ σ A R w hdn hI
  obtain ⟨b1_0, e_b1_0⟩ := hI.boxv hdn 0 rfl rfl
  have h1 : R 1 = (.pointer (some ⟨b1_0, 0, none⟩)) := (hI.opvR hdn 0 0 rfl rfl rfl rfl rfl).symm.trans e_b1_0
  replace hAA := hI.low' hAA hA0 (hO.ge (trivial))
  replace hF : Fr w0 w := hF.tr hI.ch (hO.ge (trivial))
  replace hO : IniOK [ob (.pointer (some ⟨b1_0, 0, none⟩)) (.box w0.heap.size 30 E_impl_SetIndex p0)] A w := hI.left hdn [(0, ob (.pointer (some ⟨b1_0, 0, none⟩)) (.box w0.heap.size 30 E_impl_SetIndex p0))] ⟨rfl, rfl, e_b1_0, rfl, rfl, trivial⟩
  replace hA := hI.avok
  clear hI
  refine HT.seq ?_
  refine HT.seq ?_
  obtain ⟨x2, q3, hr⟩ := cl_some hr
  obtain ⟨x4, q5, hr⟩ := cl_some hr
  obtain ⟨x6, q7, hr⟩ := bd_some hr
  obtain ⟨x8, q9, hr⟩ := bd_some hr
  refine HT.text (l := ⟨_, true, .raw (.pointer (some ⟨b1_0, 1, none⟩))⟩ :: ⟨_, true, .rep (eSl E_impl_TokenCount) A p0.2.1⟩ :: ⟨_, true, .raw (.bool x2)⟩ :: ⟨_, true, .raw (.bool (!x2))⟩ :: ⟨_, true, .raw (.bool (!x2))⟩ :: ⟨_, (true && ((!x2) == false)), .raw (.pointer (some ⟨b1_0, 0, none⟩))⟩ :: ⟨_, (true && ((!x2) == false)), .raw (.int .i64 p0.1)⟩ :: ⟨_, (true && ((!x2) == false)), .raw (.bool x4)⟩ :: ⟨_, (true && ((!x2) == false)), .raw (.bool (!x4))⟩ :: ⟨_, true, .raw (.bool x6)⟩ :: ⟨_, true, .raw (.bool x6)⟩ :: ⟨_, (true && (x6 == false)), .raw (.pointer (some ⟨b1_0, 2, none⟩))⟩ :: ⟨_, (true && (x6 == false)), .rep (eSl E_impl_IndexedSet) A p0.2.2⟩ :: ⟨_, (true && (x6 == false)), .raw (.int .i64 (p0.2.2.length : Int))⟩ :: ⟨_, (true && (x6 == false)), .raw (.bool (decide ((12 : Int) < (p0.2.2.length : Int))))⟩ :: ⟨_, true, .raw (.bool x8)⟩ :: []) (tl := []) (by kernel_rfl) (by kernel_rfl) (by kernel_rfl) ?_ ?_
  · exact
      Obls.cons (Obl.plain rfl rfl fun R' w' hw hs hd => by have a0 : R' 1 = (.pointer (some ⟨b1_0, 0, none⟩)) := (hs 1 rfl).trans h1; exact of_fieldAddr_raw a0 ff_30_1 Try.sizeOf27 (by decide) rfl) <|
      Obls.cons (Obl.plain rfl rfl fun R' w' hw hs hd => by have a0 : R' 5 = (.pointer (some ⟨b1_0, 1, none⟩)) := hd 0 _ _ _ rfl rfl rfl rfl rfl; exact (of_load_box ((hO.fr hw).ok 0 _ rfl).1 a0 fl_impl_SetIndex_1 rfl Try.isAgg27 Try.sizeOf27)) <|
      Obls.cons (Obl.plain rfl rfl fun R' w' hw hs hd => by have a0 : Rep (eSl E_impl_TokenCount) A w' (R' 6) p0.2.1 := hd 0 _ _ _ rfl rfl rfl rfl rfl; exact of_call Try.call49 (M_impl_IsTokenTable_ok (q3 rfl) (hA.fr hw.size) a0)) <|
      Obls.cons (Obl.plain rfl rfl fun R' w' hw hs hd => by have a0 : R' 7 = .bool x2 := hd 0 _ _ _ rfl rfl rfl rfl rfl; exact of_not a0) <|
      Obls.cons (Obl.plain rfl rfl fun R' w' hw hs hd => by have a0 : R' 8 = .bool (!x2) := hd 0 _ _ _ rfl rfl rfl rfl rfl; exact of_move a0) <|
      Obls.cons (Obl.grd 4 false _ _ _ rfl rfl rfl rfl rfl (by kernel_rfl) fun hg R' w' hw hs hd => by have a0 : R' 1 = (.pointer (some ⟨b1_0, 0, none⟩)) := (hs 1 rfl).trans h1; exact of_fieldAddr_raw a0 ff_30_0 Try.sizeOf3 (by decide) rfl) <|
      Obls.cons (Obl.grd 4 false _ _ _ rfl rfl rfl rfl rfl (by kernel_rfl) fun hg R' w' hw hs hd => by have a0 : R' 10 = (.pointer (some ⟨b1_0, 0, none⟩)) := hd 0 _ _ _ rfl rfl rfl rfl hg; exact OpF.int (of_load_box ((hO.fr hw).ok 0 _ rfl).1 a0 fl_impl_SetIndex_0 rfl Try.isAgg3 Try.sizeOf3)) <|
      Obls.cons (Obl.grd 4 false _ _ _ rfl rfl rfl rfl rfl (by kernel_rfl) fun hg R' w' hw hs hd => by have a0 : R' 11 = .int .i64 p0.1 := hd 0 _ _ _ rfl rfl rfl rfl hg; exact of_call Try.call50 (M_impl_isThreshold_ok (q5 hg) (hA.fr hw.size) a0)) <|
      Obls.cons (Obl.grd 4 false _ _ _ rfl rfl rfl rfl rfl (by kernel_rfl) fun hg R' w' hw hs hd => by have a0 : R' 12 = .bool x4 := hd 0 _ _ _ rfl rfl rfl rfl hg; exact of_not a0) <|
      Obls.cons (Obl.plain rfl rfl fun R' w' hw hs hd => by have a0 : R' 9 = .bool (!x2) := hd 0 _ _ _ rfl rfl rfl rfl rfl; exact of_pick (!x2) a0 (fun hc => by show _ = Value.bool x6; rw [q7, hc]; exact rfl) (fun hc => by have a2 : R' 13 = .bool (!x4) := hd 1 _ _ _ rfl rfl rfl rfl (g_and rfl (beq_of hc)); show _ = Value.bool x6; rw [q7, hc]; exact a2)) <|
      Obls.cons (Obl.plain rfl rfl fun R' w' hw hs hd => by have a0 : R' 14 = .bool x6 := hd 0 _ _ _ rfl rfl rfl rfl rfl; exact of_move a0) <|
      Obls.cons (Obl.grd 10 false _ _ _ rfl rfl rfl rfl rfl (by kernel_rfl) fun hg R' w' hw hs hd => by have a0 : R' 1 = (.pointer (some ⟨b1_0, 0, none⟩)) := (hs 1 rfl).trans h1; exact of_fieldAddr_raw a0 ff_30_2 Try.sizeOf28 (by decide) rfl) <|
      Obls.cons (Obl.grd 10 false _ _ _ rfl rfl rfl rfl rfl (by kernel_rfl) fun hg R' w' hw hs hd => by have a0 : R' 16 = (.pointer (some ⟨b1_0, 2, none⟩)) := hd 0 _ _ _ rfl rfl rfl rfl hg; exact (of_load_box ((hO.fr hw).ok 0 _ rfl).1 a0 fl_impl_SetIndex_2 rfl Try.isAgg28 Try.sizeOf28)) <|
      Obls.cons (Obl.grd 10 false _ _ _ rfl rfl rfl rfl rfl (by kernel_rfl) fun hg R' w' hw hs hd => by have a0 : Rep (eSl E_impl_IndexedSet) A w' (R' 17) p0.2.2 := hd 0 _ _ _ rfl rfl rfl rfl hg; exact of_len_sl (aT := #[]) a0 Try.underlying28) <|
      Obls.cons (Obl.grd 10 false _ _ _ rfl rfl rfl rfl rfl (by kernel_rfl) fun hg R' w' hw hs hd => by have a0 : R' 18 = .int .i64 (p0.2.2.length : Int) := hd 0 _ _ _ rfl rfl rfl rfl hg; exact of_gtr a0 rfl) <|
      Obls.cons (Obl.plain rfl rfl fun R' w' hw hs hd => by have a0 : R' 15 = .bool x6 := hd 0 _ _ _ rfl rfl rfl rfl rfl; exact of_pick x6 a0 (fun hc => by show _ = Value.bool x8; rw [q9, hc]; exact rfl) (fun hc => by have a2 : R' 19 = .bool (decide ((12 : Int) < (p0.2.2.length : Int))) := hd 1 _ _ _ rfl rfl rfl rfl (g_and rfl (beq_of hc)); show _ = Value.bool x8; rw [q9, hc]; exact a2)) <|
      Obls.nil
  intro R w hw hs hF'
  replace h1 : R 1 = (.pointer (some ⟨b1_0, 0, none⟩)) := (hs 1 rfl).trans h1
  have h20 : R 20 = .bool x8 := hF' 15 _ _ rfl rfl rfl
  replace hO := hO.fr hw
  replace hA := hA.fr hw.size
  replace hF := hF.trans hw
  clear hs hF' hw
  refine seqR_nil ?_
  refine HT.cond x8 h20 (fun c10 => ?_) (fun c10 => ?_)
  · have hr := cnd_t c10 hr
    refine HT.seq ?_
    refine HT.text (l := ⟨_, true, .raw (.bool false)⟩ :: []) (tl := []) (by kernel_rfl) (by kernel_rfl) (by kernel_rfl) ?_ ?_
    · exact
        Obls.cons (Obl.plain rfl rfl fun R' w' hw hs hd => by exact of_assign rfl) <|
        Obls.nil
    intro R w hw hs hF'
    have h2 : R 2 = .bool false := hF' 0 _ _ rfl rfl rfl
    replace hO := hO.fr hw
    replace hO : IniOK [] A w := hO.sub [] trivial
    replace hA := hA.fr hw.size
    replace hF := hF.trans hw
    clear hs hF' hw
    refine seqR_nil ?_
    refine HT.ret ?_
    obtain rfl := Option.some.inj hr
    exact ⟨.inr rfl, [R 2], ⟨rfl, trivial⟩, h2, hF⟩
  · have hr := cnd_f c10 hr
    refine HT.skip ?_
    refine HT.seq ?_
    refine HT.seq ?_
    refine HT.text (l := ⟨_, true, .raw (.pointer (some ⟨b1_0, 2, none⟩))⟩ :: ⟨_, true, .rep (eSl E_impl_IndexedSet) A p0.2.2⟩ :: ⟨_, true, .raw (.int .i64 (p0.2.2.length : Int))⟩ :: ⟨_, true, .raw (.int .i64 (0 : Int))⟩ :: []) (tl := []) (by kernel_rfl) (by kernel_rfl) (by kernel_rfl) ?_ ?_
    · exact
        Obls.cons (Obl.plain rfl rfl fun R' w' hw hs hd => by have a0 : R' 1 = (.pointer (some ⟨b1_0, 0, none⟩)) := (hs 1 rfl).trans h1; exact of_fieldAddr_raw a0 ff_30_2 Try.sizeOf28 (by decide) rfl) <|
        Obls.cons (Obl.plain rfl rfl fun R' w' hw hs hd => by have a0 : R' 21 = (.pointer (some ⟨b1_0, 2, none⟩)) := hd 0 _ _ _ rfl rfl rfl rfl rfl; exact (of_load_box ((hO.fr hw).ok 0 _ rfl).1 a0 fl_impl_SetIndex_2 rfl Try.isAgg28 Try.sizeOf28)) <|
        Obls.cons (Obl.plain rfl rfl fun R' w' hw hs hd => by have a0 : Rep (eSl E_impl_IndexedSet) A w' (R' 22) p0.2.2 := hd 0 _ _ _ rfl rfl rfl rfl rfl; exact of_len_sl (aT := #[]) a0 Try.underlying28) <|
        Obls.cons (Obl.plain rfl rfl fun R' w' hw hs hd => by exact of_move rfl) <|
        Obls.nil
    intro R w hw hs hF'
    replace h1 : R 1 = (.pointer (some ⟨b1_0, 0, none⟩)) := (hs 1 rfl).trans h1
    obtain ⟨u11, h22, f_u11⟩ : ∃ u, R 22 = u ∧ Rep (eSl E_impl_IndexedSet) A w u p0.2.2 := ⟨_, rfl, hF' 1 _ _ rfl rfl rfl⟩
    have h23 : R 23 = .int .i64 (p0.2.2.length : Int) := hF' 2 _ _ rfl rfl rfl
    have h24 : R 24 = .int .i64 (0 : Int) := hF' 3 _ _ rfl rfl rfl
    replace hO := hO.fr hw
    replace hA := hA.fr hw.size
    replace hF := hF.trans hw
    clear hs hF' hw
    refine seqR_nil ?_
    obtain ⟨rl12, q13, hr⟩ := cl_some hr
    replace q13 := q13 rfl
    refine HT.cut0 (fun R w => ∃ A : Av, ∃ (s14 : Unit), rl12 = Ex.go s14 ∧ AvOK A w ∧ Fr w0 w ∧ (∀ b o, A0 b o → A b o) ∧ IniOK [] A w) ?_ ?_
    · refine HT.block ?_
      refine HT.loop (fun k R w => ∃ A : Av, ∃ (y15 : Int), M_impl_IsValidSetIndex_L0 fu p0 k y15 = some rl12 ∧ AvOK A w ∧ Fr w0 w ∧ (∀ b o, A0 b o → A b o) ∧ IniOK [ob (.pointer (some ⟨b1_0, 0, none⟩)) (.box w0.heap.size 30 E_impl_SetIndex p0)] A w ∧ R 1 = (.pointer (some ⟨b1_0, 0, none⟩)) ∧ R 22 = u11 ∧ R 23 = .int .i64 (p0.2.2.length : Int) ∧ R 24 = .int .i64 y15 ∧ Rep (eSl E_impl_IndexedSet) A w u11 p0.2.2) fu ⟨_, _, q13, hA, hF, hAA, hO, h1, h22, h23, h24, f_u11⟩ ?_
      have hr0 := hr; clear hr q13
      rintro k R w ⟨A, y15, hr, hA, hF, hAA, hO, h1, h22, h23, h24, f_u11⟩
      rcases k with _ | k
      · cases (show none = some _ from hr)
      rw [M_impl_IsValidSetIndex_L0] at hr
      refine HT.seq ?_
      refine HT.text (l := ⟨_, true, .raw (.bool (decide (y15 < (p0.2.2.length : Int))))⟩ :: []) (tl := []) (by kernel_rfl) (by kernel_rfl) (by kernel_rfl) ?_ ?_
      · exact
          Obls.cons (Obl.plain rfl rfl fun R' w' hw hs hd => by have a0 : R' 24 = .int .i64 y15 := (hs 24 rfl).trans h24; have a1 : R' 23 = .int .i64 (p0.2.2.length : Int) := (hs 23 rfl).trans h23; exact of_lss a0 a1) <|
          Obls.nil
      intro R w hw hs hF'
      replace h1 : R 1 = (.pointer (some ⟨b1_0, 0, none⟩)) := (hs 1 rfl).trans h1
      replace h22 : R 22 = u11 := (hs 22 rfl).trans h22
      replace h23 : R 23 = .int .i64 (p0.2.2.length : Int) := (hs 23 rfl).trans h23
      replace h24 : R 24 = .int .i64 y15 := (hs 24 rfl).trans h24
      have h25 : R 25 = .bool (decide (y15 < (p0.2.2.length : Int))) := hF' 0 _ _ rfl rfl rfl
      replace f_u11 := f_u11.fr hw
      replace hO := hO.fr hw
      replace hA := hA.fr hw.size
      replace hF := hF.trans hw
      clear hs hF' hw
      refine seqR_nil ?_
      refine HT.seq ?_
      refine HT.cond (decide (y15 < (p0.2.2.length : Int))) h25 (fun c16 => ?_) (fun c16 => ?_)
      · have hr := cnd_t c16 hr
        refine HT.skip ?_
        refine HT.seq ?_
        refine HT.block ?_
        refine HT.seq ?_
        obtain ⟨e17, hr⟩ := ck_some hr
        refine HT.textR [ob (.pointer (some ⟨b1_0, 0, none⟩)) (.box w0.heap.size 30 E_impl_SetIndex p0)] (⟨_, true, [], none, true, fun A => .raw (.int .i64 y15)⟩ :: ⟨_, true, [], none, true, fun A => .qtr E_impl_IndexedSet A (gtD p0.2.2 y15)⟩ :: ⟨_, true, [], none, true, fun A => .rep E_impl_IndexedSet A (gtD p0.2.2 y15)⟩ :: ⟨_, true, [], some (.box w0.heap.size 55 E_impl_IndexedSet ((0 : Int), ([] : List (List UInt8)))), true, fun A => .any⟩ :: ⟨_, true, [], none, true, fun A => .raw (.int .i64 y15)⟩ :: ⟨_, true, [4], some (.box w0.heap.size 55 E_impl_IndexedSet (gtD p0.2.2 y15)), false, fun A => .any⟩ :: []) (by kernel_rfl) (by kernel_rfl) (Wf.mk' (by kernel_rfl) (UAll.cons ust_raw (UAll.cons ust_qtr (UAll.cons ust_rep (UAll.cons ust_any (UAll.cons ust_raw (UAll.cons ust_any (UAll.nil))))))) (by kernel_rfl) (by kernel_rfl)) hO hA ?_ ?_
        · exact
            OblsR.cons (OblR.plain rfl rfl rfl rfl fun A' R' w' ho hd => by have a0 : R' 24 = .int .i64 y15 := (ho.old 24 rfl).trans h24; exact of_move a0) <|
            OblsR.cons (OblR.plain rfl rfl rfl rfl fun A' R' w' ho hd => by have a0 : R' 22 = u11 := (ho.old 22 rfl).trans h22; have a1 : R' 24 = .int .i64 y15 := (ho.old 24 rfl).trans h24; have ra0 := (f_u11.stp ho.stp).eq a0; exact of_indexAddr ra0 a1 Try.underlying28 Try.sizeOf55 e17) <|
            OblsR.cons (OblR.plain rfl rfl rfl rfl fun A' R' w' ho hd => by have a0 : QRep E_impl_IndexedSet A' w' (R' 27) (gtD p0.2.2 y15) := hd 0 _ _ _ rfl rfl rfl rfl rfl; exact (of_load a0.ptr Try.isAgg55 Try.sizeOf55)) <|
            OblsR.cons (OblR.made _ rfl rfl rfl rfl fun A' R' w' ho hd => by exact made_alloc Try.zeroValue55 (fun A w => rep_pr rep1_int rep1_nil) (Nat.le_trans hF.size ho.ch.size)) <|
            OblsR.cons (OblR.plain rfl rfl rfl rfl fun A' R' w' ho hd => by have a0 : R' 26 = .int .i64 y15 := hd 0 _ _ _ rfl rfl rfl rfl rfl; exact of_assign a0) <|
            OblsR.cons (OblR.took 4 _ _ rfl rfl rfl rfl rfl fun A' R' w' ho hd u hok hav hin hop hds => by have a1 : Rep E_impl_IndexedSet A' w' (R' 28) (gtD p0.2.2 y15) := hd 1 _ _ _ rfl rfl rfl rfl rfl; obtain ⟨b, hb, hB', hbx⟩ := hok; have hop' := hop _ _ rfl rfl rfl rfl; exact took_store a1 (hop'.symm.trans hb) hb ⟨b, hb, hB', hbx⟩ hav (FldS.id _) Try.sizeOf55 rfl) <|
            OblsR.nil
        intro done ρ σ A R w hdn hI
        replace h1 : R 1 = (.pointer (some ⟨b1_0, 0, none⟩)) := (hI.reg rfl).trans h1
        replace h22 : R 22 = u11 := (hI.reg rfl).trans h22
        replace h23 : R 23 = .int .i64 (p0.2.2.length : Int) := (hI.reg rfl).trans h23
        replace h24 : R 24 = .int .i64 y15 := (hI.reg rfl).trans h24
        have z18 := hI.inivR 0 rfl
        obtain ⟨b4_18, e_b4_18⟩ := hI.boxv hdn 6 rfl rfl
        have z20 := (hI.opnR hdn 6 5 rfl rfl rfl rfl rfl).symm.trans e_b4_18
        have h4 : R 4 = (.pointer (some ⟨b4_18, 0, none⟩)) := (hI.opvR hdn 4 3 rfl rfl rfl rfl rfl).symm.trans z20
        have h3 : R 3 = .int .i64 y15 := hI.fact hdn (i := 4) rfl rfl rfl
        replace f_u11 := f_u11.stp hI.stp
        replace hAA := hI.low' hAA hA0 (hO.ge (⟨rfl, trivial⟩))
        replace hF : Fr w0 w := hF.tr hI.ch (hO.ge (⟨rfl, trivial⟩))
        replace hO : IniOK [ob (.pointer (some ⟨b1_0, 0, none⟩)) (.box w0.heap.size 30 E_impl_SetIndex p0), ob (.pointer (some ⟨b4_18, 0, none⟩)) (.box w0.heap.size 55 E_impl_IndexedSet (gtD p0.2.2 y15))] A w := hI.left hdn [(0, ob (.pointer (some ⟨b1_0, 0, none⟩)) (.box w0.heap.size 30 E_impl_SetIndex p0)), (6, ob (.pointer (some ⟨b4_18, 0, none⟩)) (.box w0.heap.size 55 E_impl_IndexedSet (gtD p0.2.2 y15)))] ⟨rfl, rfl, z18, rfl, rfl, ⟨rfl, rfl, e_b4_18, rfl, rfl, trivial⟩⟩
        replace hA := hI.avok
        clear hI
        refine HT.seq ?_
        obtain ⟨x21, q22, hr⟩ := cl_some hr
        obtain ⟨x23, q24, hr⟩ := cl_some hr
        obtain ⟨x25, q26, hr⟩ := bd_some hr
        obtain ⟨e27, hr⟩ := ck_some hr
        obtain ⟨e28, hr⟩ := ck_some hr
        obtain ⟨x29, q30, hr⟩ := bd_some hr
        obtain ⟨x31, q32, hr⟩ := bd_some hr
        refine HT.draw (by kernel_rfl) (l := ⟨_, true, .raw (.pointer (some ⟨b4_18, 0, none⟩))⟩ :: ⟨_, true, .raw (.int .i64 ((gtD p0.2.2 y15).1))⟩ :: ⟨_, true, .raw (.bool x21)⟩ :: ⟨_, true, .raw (.bool (!x21))⟩ :: ⟨_, true, .raw (.bool (!x21))⟩ :: ⟨_, (true && ((!x21) == false)), .raw (.pointer (some ⟨b4_18, 1, none⟩))⟩ :: ⟨_, (true && ((!x21) == false)), .rep (eSl eStr) A ((gtD p0.2.2 y15).2)⟩ :: ⟨_, (true && ((!x21) == false)), .raw (.bool x23)⟩ :: ⟨_, (true && ((!x21) == false)), .raw (.bool (!x23))⟩ :: ⟨_, true, .raw (.bool x25)⟩ :: ⟨_, true, .raw (.bool x25)⟩ :: ⟨_, (true && (x25 == false)), .raw (.int .i64 y15)⟩ :: ⟨_, (true && (x25 == false)), .raw (.bool (decide ((0 : Int) < y15)))⟩ :: ⟨_, (true && (x25 == false)), .raw (.bool (decide ((0 : Int) < y15)))⟩ :: ⟨_, ((true && (x25 == false)) && ((decide ((0 : Int) < y15)) == true)), .raw (.pointer (some ⟨b1_0, 2, none⟩))⟩ :: ⟨_, ((true && (x25 == false)) && ((decide ((0 : Int) < y15)) == true)), .rep (eSl E_impl_IndexedSet) A p0.2.2⟩ :: ⟨_, ((true && (x25 == false)) && ((decide ((0 : Int) < y15)) == true)), .raw (.int .i64 y15)⟩ :: ⟨_, ((true && (x25 == false)) && ((decide ((0 : Int) < y15)) == true)), .raw (.int .i64 (y15 - (1 : Int)))⟩ :: ⟨_, ((true && (x25 == false)) && ((decide ((0 : Int) < y15)) == true)), .qtr E_impl_IndexedSet A (gtD p0.2.2 (y15 - (1 : Int)))⟩ :: ⟨_, ((true && (x25 == false)) && ((decide ((0 : Int) < y15)) == true)), .qtr (eInt .i64) A ((gtD p0.2.2 (y15 - (1 : Int))).1)⟩ :: ⟨_, ((true && (x25 == false)) && ((decide ((0 : Int) < y15)) == true)), .raw (.int .i64 ((gtD p0.2.2 (y15 - (1 : Int))).1))⟩ :: ⟨_, ((true && (x25 == false)) && ((decide ((0 : Int) < y15)) == true)), .raw (.pointer (some ⟨b4_18, 0, none⟩))⟩ :: ⟨_, ((true && (x25 == false)) && ((decide ((0 : Int) < y15)) == true)), .raw (.int .i64 ((gtD p0.2.2 y15).1))⟩ :: ⟨_, ((true && (x25 == false)) && ((decide ((0 : Int) < y15)) == true)), .raw (.bool (decide (((gtD p0.2.2 y15).1) ≤ ((gtD p0.2.2 (y15 - (1 : Int))).1))))⟩ :: ⟨_, (true && (x25 == false)), .raw (.bool x29)⟩ :: ⟨_, true, .raw (.bool x31)⟩ :: []) (tl := []) (by kernel_rfl) (by kernel_rfl) (by kernel_rfl) (by kernel_rfl) ?_ ?_
        · exact
            Obls.cons (Obl.plain rfl rfl fun R' w' hw hs hd => by have a0 : R' 4 = (.pointer (some ⟨b4_18, 0, none⟩)) := (hs 4 rfl).trans h4; exact of_fieldAddr_raw a0 ff_55_0 Try.sizeOf3 (by decide) rfl) <|
            Obls.cons (Obl.plain rfl rfl fun R' w' hw hs hd => by have a0 : R' 29 = (.pointer (some ⟨b4_18, 0, none⟩)) := hd 0 _ _ _ rfl rfl rfl rfl rfl; exact OpF.int (of_load_box ((hO.fr hw).ok 1 _ rfl).1 a0 fl_impl_IndexedSet_0 rfl Try.isAgg3 Try.sizeOf3)) <|
            Obls.cons (Obl.plain rfl rfl fun R' w' hw hs hd => by have a0 : R' 30 = .int .i64 ((gtD p0.2.2 y15).1) := hd 0 _ _ _ rfl rfl rfl rfl rfl; exact of_call Try.call27 (M_impl_isSetID_ok (q22 rfl) (hA.fr hw.size) a0)) <|
            Obls.cons (Obl.plain rfl rfl fun R' w' hw hs hd => by have a0 : R' 31 = .bool x21 := hd 0 _ _ _ rfl rfl rfl rfl rfl; exact of_not a0) <|
            Obls.cons (Obl.plain rfl rfl fun R' w' hw hs hd => by have a0 : R' 32 = .bool (!x21) := hd 0 _ _ _ rfl rfl rfl rfl rfl; exact of_move a0) <|
            Obls.cons (Obl.grd 4 false _ _ _ rfl rfl rfl rfl rfl (by kernel_rfl) fun hg R' w' hw hs hd => by have a0 : R' 4 = (.pointer (some ⟨b4_18, 0, none⟩)) := (hs 4 rfl).trans h4; exact of_fieldAddr_raw a0 ff_55_1 Try.sizeOf37 (by decide) rfl) <|
            Obls.cons (Obl.grd 4 false _ _ _ rfl rfl rfl rfl rfl (by kernel_rfl) fun hg R' w' hw hs hd => by have a0 : R' 34 = (.pointer (some ⟨b4_18, 1, none⟩)) := hd 0 _ _ _ rfl rfl rfl rfl hg; exact (of_load_box ((hO.fr hw).ok 1 _ rfl).1 a0 fl_impl_IndexedSet_1 rfl Try.isAgg37 Try.sizeOf37)) <|
            Obls.cons (Obl.grd 4 false _ _ _ rfl rfl rfl rfl rfl (by kernel_rfl) fun hg R' w' hw hs hd => by have a0 : Rep (eSl eStr) A w' (R' 35) ((gtD p0.2.2 y15).2) := hd 0 _ _ _ rfl rfl rfl rfl hg; exact of_call Try.call38 (M_impl_IsTokenSet_ok (q24 hg) (hA.fr hw.size) a0)) <|
            Obls.cons (Obl.grd 4 false _ _ _ rfl rfl rfl rfl rfl (by kernel_rfl) fun hg R' w' hw hs hd => by have a0 : R' 36 = .bool x23 := hd 0 _ _ _ rfl rfl rfl rfl hg; exact of_not a0) <|
            Obls.cons (Obl.plain rfl rfl fun R' w' hw hs hd => by have a0 : R' 33 = .bool (!x21) := hd 0 _ _ _ rfl rfl rfl rfl rfl; exact of_pick (!x21) a0 (fun hc => by show _ = Value.bool x25; rw [q26, hc]; exact rfl) (fun hc => by have a2 : R' 37 = .bool (!x23) := hd 1 _ _ _ rfl rfl rfl rfl (g_and rfl (beq_of hc)); show _ = Value.bool x25; rw [q26, hc]; exact a2)) <|
            Obls.cons (Obl.plain rfl rfl fun R' w' hw hs hd => by have a0 : R' 38 = .bool x25 := hd 0 _ _ _ rfl rfl rfl rfl rfl; exact of_move a0) <|
            Obls.cons (Obl.grd 10 false _ _ _ rfl rfl rfl rfl rfl (by kernel_rfl) fun hg R' w' hw hs hd => by have a0 : R' 3 = .int .i64 y15 := (hs 3 rfl).trans h3; exact of_move a0) <|
            Obls.cons (Obl.grd 10 false _ _ _ rfl rfl rfl rfl rfl (by kernel_rfl) fun hg R' w' hw hs hd => by have a0 : R' 40 = .int .i64 y15 := hd 0 _ _ _ rfl rfl rfl rfl hg; exact of_gtr a0 rfl) <|
            Obls.cons (Obl.grd 10 false _ _ _ rfl rfl rfl rfl rfl (by kernel_rfl) fun hg R' w' hw hs hd => by have a0 : R' 41 = .bool (decide ((0 : Int) < y15)) := hd 0 _ _ _ rfl rfl rfl rfl hg; exact of_move a0) <|
            Obls.cons (Obl.grd 13 true _ _ _ rfl rfl rfl rfl rfl (by kernel_rfl) fun hg R' w' hw hs hd => by have a0 : R' 1 = (.pointer (some ⟨b1_0, 0, none⟩)) := (hs 1 rfl).trans h1; exact of_fieldAddr_raw a0 ff_30_2 Try.sizeOf28 (by decide) rfl) <|
            Obls.cons (Obl.grd 13 true _ _ _ rfl rfl rfl rfl rfl (by kernel_rfl) fun hg R' w' hw hs hd => by have a0 : R' 43 = (.pointer (some ⟨b1_0, 2, none⟩)) := hd 0 _ _ _ rfl rfl rfl rfl hg; exact (of_load_box ((hO.fr hw).ok 0 _ rfl).1 a0 fl_impl_SetIndex_2 rfl Try.isAgg28 Try.sizeOf28)) <|
            Obls.cons (Obl.grd 13 true _ _ _ rfl rfl rfl rfl rfl (by kernel_rfl) fun hg R' w' hw hs hd => by have a0 : R' 3 = .int .i64 y15 := (hs 3 rfl).trans h3; exact of_move a0) <|
            Obls.cons (Obl.grd 13 true _ _ _ rfl rfl rfl rfl rfl (by kernel_rfl) fun hg R' w' hw hs hd => by have a0 : R' 45 = .int .i64 y15 := hd 0 _ _ _ rfl rfl rfl rfl hg; exact of_sub a0 rfl (gd e27 hg)) <|
            Obls.cons (Obl.grd 13 true _ _ _ rfl rfl rfl rfl rfl (by kernel_rfl) fun hg R' w' hw hs hd => by have a0 : Rep (eSl E_impl_IndexedSet) A w' (R' 44) p0.2.2 := hd 0 _ _ _ rfl rfl rfl rfl hg; have a1 : R' 46 = .int .i64 (y15 - (1 : Int)) := hd 1 _ _ _ rfl rfl rfl rfl hg; exact of_indexAddr a0 a1 Try.underlying28 Try.sizeOf55 (gd e28 hg)) <|
            Obls.cons (Obl.grd 13 true _ _ _ rfl rfl rfl rfl rfl (by kernel_rfl) fun hg R' w' hw hs hd => by have a0 : QRep E_impl_IndexedSet A w' (R' 47) (gtD p0.2.2 (y15 - (1 : Int))) := hd 0 _ _ _ rfl rfl rfl rfl hg; exact of_fieldAddr_q a0 ff_55_0 Try.sizeOf3 (by decide) fl_impl_IndexedSet_0 rfl) <|
            Obls.cons (Obl.grd 13 true _ _ _ rfl rfl rfl rfl rfl (by kernel_rfl) fun hg R' w' hw hs hd => by have a0 : QRep (eInt .i64) A w' (R' 48) ((gtD p0.2.2 (y15 - (1 : Int))).1) := hd 0 _ _ _ rfl rfl rfl rfl hg; exact OpF.int (of_load a0.ptr Try.isAgg3 Try.sizeOf3)) <|
            Obls.cons (Obl.grd 13 true _ _ _ rfl rfl rfl rfl rfl (by kernel_rfl) fun hg R' w' hw hs hd => by have a0 : R' 4 = (.pointer (some ⟨b4_18, 0, none⟩)) := (hs 4 rfl).trans h4; exact of_fieldAddr_raw a0 ff_55_0 Try.sizeOf3 (by decide) rfl) <|
            Obls.cons (Obl.grd 13 true _ _ _ rfl rfl rfl rfl rfl (by kernel_rfl) fun hg R' w' hw hs hd => by have a0 : R' 50 = (.pointer (some ⟨b4_18, 0, none⟩)) := hd 0 _ _ _ rfl rfl rfl rfl hg; exact OpF.int (of_load_box ((hO.fr hw).ok 1 _ rfl).1 a0 fl_impl_IndexedSet_0 rfl Try.isAgg3 Try.sizeOf3)) <|
            Obls.cons (Obl.grd 13 true _ _ _ rfl rfl rfl rfl rfl (by kernel_rfl) fun hg R' w' hw hs hd => by have a0 : R' 49 = .int .i64 ((gtD p0.2.2 (y15 - (1 : Int))).1) := hd 0 _ _ _ rfl rfl rfl rfl hg; have a1 : R' 51 = .int .i64 ((gtD p0.2.2 y15).1) := hd 1 _ _ _ rfl rfl rfl rfl hg; exact of_geq a0 a1) <|
            Obls.cons (Obl.grd 10 false _ _ _ rfl rfl rfl rfl rfl (by kernel_rfl) fun hg R' w' hw hs hd => by have a0 : R' 42 = .bool (decide ((0 : Int) < y15)) := hd 0 _ _ _ rfl rfl rfl rfl hg; exact of_pick (decide ((0 : Int) < y15)) a0 (fun hc => by have a1 : R' 52 = .bool (decide (((gtD p0.2.2 y15).1) ≤ ((gtD p0.2.2 (y15 - (1 : Int))).1))) := hd 1 _ _ _ rfl rfl rfl rfl (g_and hg (beq_of hc)); show _ = Value.bool x29; rw [q30, hc]; exact a1) (fun hc => by show _ = Value.bool x29; rw [q30, hc]; exact rfl)) <|
            Obls.cons (Obl.plain rfl rfl fun R' w' hw hs hd => by have a0 : R' 39 = .bool x25 := hd 0 _ _ _ rfl rfl rfl rfl rfl; exact of_pick x25 a0 (fun hc => by show _ = Value.bool x31; rw [q32, hc]; exact rfl) (fun hc => by have a2 : R' 53 = .bool x29 := hd 1 _ _ _ rfl rfl rfl rfl (g_and rfl (beq_of hc)); show _ = Value.bool x31; rw [q32, hc]; exact a2)) <|
            Obls.nil
        intro R w hw hs hF'
        replace h1 : R 1 = (.pointer (some ⟨b1_0, 0, none⟩)) := (hs 1 rfl).trans h1
        replace h22 : R 22 = u11 := (hs 22 rfl).trans h22
        replace h23 : R 23 = .int .i64 (p0.2.2.length : Int) := (hs 23 rfl).trans h23
        replace h24 : R 24 = .int .i64 y15 := (hs 24 rfl).trans h24
        have h54 : R 54 = .bool x31 := hF' 25 _ _ rfl rfl rfl
        replace f_u11 := f_u11.fr hw
        replace hO := hO.fr hw
        replace hO : IniOK [ob (.pointer (some ⟨b1_0, 0, none⟩)) (.box w0.heap.size 30 E_impl_SetIndex p0)] A w := hO.sub [(0, ob (.pointer (some ⟨b1_0, 0, none⟩)) (.box w0.heap.size 30 E_impl_SetIndex p0))] ⟨rfl, rfl, trivial⟩
        replace hA := hA.fr hw.size
        replace hF := hF.trans hw
        clear hs hF' hw
        refine seqR_nil ?_
        refine HT.cond x31 h54 (fun c33 => ?_) (fun c33 => ?_)
        · have hr := cnd_t c33 hr
          refine HT.seq ?_
          refine HT.text (l := ⟨_, true, .raw (.bool false)⟩ :: []) (tl := []) (by kernel_rfl) (by kernel_rfl) (by kernel_rfl) ?_ ?_
          · exact
              Obls.cons (Obl.plain rfl rfl fun R' w' hw hs hd => by exact of_assign rfl) <|
              Obls.nil
          intro R w hw hs hF'
          have h2 : R 2 = .bool false := hF' 0 _ _ rfl rfl rfl
          replace hO := hO.fr hw
          replace hO : IniOK [] A w := hO.sub [] trivial
          replace hA := hA.fr hw.size
          replace hF := hF.trans hw
          clear hs hF' hw
          refine seqR_nil ?_
          refine HT.ret ?_
          obtain rfl := Option.some.inj hr
          have hr := hr0
          replace hr : some _ = some _ := hr
          obtain rfl := Option.some.inj hr
          exact ⟨.inr rfl, [R 2], ⟨rfl, trivial⟩, h2, hF⟩
        · have hr := cnd_f c33 hr
          refine HT.skip ?_
          obtain ⟨e34, hr⟩ := ck_some hr
          refine HT.text (l := ⟨_, true, .raw (.int .i64 (y15 + (1 : Int)))⟩ :: ⟨_, true, .raw (.int .i64 (y15 + (1 : Int)))⟩ :: []) (tl := []) (by kernel_rfl) (by kernel_rfl) (by kernel_rfl) ?_ ?_
          · exact
              Obls.cons (Obl.plain rfl rfl fun R' w' hw hs hd => by have a0 : R' 24 = .int .i64 y15 := (hs 24 rfl).trans h24; exact of_add a0 rfl e34) <|
              Obls.cons (Obl.plain rfl rfl fun R' w' hw hs hd => by have a0 : R' 55 = .int .i64 (y15 + (1 : Int)) := hd 0 _ _ _ rfl rfl rfl rfl rfl; exact of_move a0) <|
              Obls.nil
          intro R w hw hs hF'
          replace h1 : R 1 = (.pointer (some ⟨b1_0, 0, none⟩)) := (hs 1 rfl).trans h1
          replace h22 : R 22 = u11 := (hs 22 rfl).trans h22
          replace h23 : R 23 = .int .i64 (p0.2.2.length : Int) := (hs 23 rfl).trans h23
          have h24 : R 24 = .int .i64 (y15 + (1 : Int)) := hF' 1 _ _ rfl rfl rfl
          replace f_u11 := f_u11.fr hw
          replace hO := hO.fr hw
          replace hA := hA.fr hw.size
          replace hF := hF.trans hw
          clear hs hF' hw
          refine seqR_nil ?_
          exact Exists.intro k (And.intro (Nat.lt_succ_self k) ⟨_, _, hr, hA, hF, hAA, hO, h1, h22, h23, h24, f_u11⟩)
      · have hr := cnd_f c16 hr
        refine HT.exit ?_
        obtain rfl := Option.some.inj hr
        replace hO : IniOK [] A w := hO.sub [] trivial
        exact Exists.intro _ ⟨_, rfl, hA, hF, hAA, hO⟩
    rintro R w ⟨A, s14, rfl, hA, hF, hAA, hO⟩
    have hr := exM_go hr
    refine HT.seq ?_
    refine HT.text (l := ⟨_, true, .raw (.bool true)⟩ :: []) (tl := []) (by kernel_rfl) (by kernel_rfl) (by kernel_rfl) ?_ ?_
    · exact
        Obls.cons (Obl.plain rfl rfl fun R' w' hw hs hd => by exact of_assign rfl) <|
        Obls.nil
    intro R w hw hs hF'
    have h2 : R 2 = .bool true := hF' 0 _ _ rfl rfl rfl
    replace hO := hO.fr hw
    replace hA := hA.fr hw.size
    replace hF := hF.trans hw
    clear hs hF' hw
    refine seqR_nil ?_
    refine HT.ret ?_
    obtain rfl := Option.some.inj hr
    exact ⟨.inr rfl, [R 2], ⟨rfl, trivial⟩, h2, hF⟩
def M_slices_BinarySearchFunc_impl_IndexedSet_impl_IndexedSet_int_L0 (fu : Nat) (p0 : List T_impl_IndexedSet) (p1 : Int) (p2 : T_impl_IndexedSet → Int → Option Int) : Nat → Int → Int → Option Int
  | 0, _, _ => none
  | k + 1, y4, y5 =>
    bif (decide (y4 < y5)) then (
      ck (i64B (y4 + y5)) <|
      ck (decide (0 ≤ (1 : Int))) <|
      ck (inR (IntKind.i64.wrap ((IntKind.u64.wrap (y4 + y5)) / 2 ^ min (1 : Int).toNat 64)) p0.length) <|
      cl true (p2 (gtD p0 (IntKind.i64.wrap ((IntKind.u64.wrap (y4 + y5)) / 2 ^ min (1 : Int).toNat 64))) p1) fun x10 =>
      bif (decide (x10 < (0 : Int))) then (
        ck (i64B ((IntKind.i64.wrap ((IntKind.u64.wrap (y4 + y5)) / 2 ^ min (1 : Int).toNat 64)) + (1 : Int))) <|
        M_slices_BinarySearchFunc_impl_IndexedSet_impl_IndexedSet_int_L0 fu p0 p1 p2 k ((IntKind.i64.wrap ((IntKind.u64.wrap (y4 + y5)) / 2 ^ min (1 : Int).toNat 64)) + (1 : Int)) y5
      ) else (
        M_slices_BinarySearchFunc_impl_IndexedSet_impl_IndexedSet_int_L0 fu p0 p1 p2 k y4 (IntKind.i64.wrap ((IntKind.u64.wrap (y4 + y5)) / 2 ^ min (1 : Int).toNat 64))
      )
    ) else (
      some y4
    )
def M_slices_BinarySearchFunc_impl_IndexedSet_impl_IndexedSet_int (fu : Nat) (p0 : List T_impl_IndexedSet) (p1 : Int) (p2 : T_impl_IndexedSet → Int → Option Int) : Option (Int × Bool) :=
  cl true (M_slices_BinarySearchFunc_impl_IndexedSet_impl_IndexedSet_int_L0 fu p0 p1 p2 fu (0 : Int) (p0.length : Int)) fun s3 =>
  ck (!(true && ((decide (s3 < (p0.length : Int))) == true)) || inR s3 p0.length) <|
  cl (true && ((decide (s3 < (p0.length : Int))) == true)) (p2 (gtD p0 s3) p1) fun x15 =>
  bd ((decide (s3 < (p0.length : Int))) && (x15 == (0 : Int))) fun x17 =>
  some (s3, x17)
set_option maxRecDepth 100000 in
set_option maxHeartbeats 4000000 in
theorem M_slices_BinarySearchFunc_impl_IndexedSet_impl_IndexedSet_int_ok {fu : Nat} {A : Av} {p0 : List T_impl_IndexedSet} {p1 : Int} {p2 : T_impl_IndexedSet → Int → Option Int} {r : Int × Bool} (hr : M_slices_BinarySearchFunc_impl_IndexedSet_impl_IndexedSet_int fu p0 p1 p2 = some r) {w : World} {v0 : Value} {v1 : Value} {v2 : Value} (hA : AvOK A w) (h0 : Rep (eSl E_impl_IndexedSet) A w v0 p0) (h1 : v1 = .int .i64 p1) (h2 : FnB2 Try.prog E_impl_IndexedSet (eInt .i64) (fun r => .raw (.int .i64 r)) A w v2 p2) :
    Calls Try.prog 52 #[v0, v1, v2] w fun e w' => ∃ v, e = .returned v ∧ ((∃ a b, v = .tuple #[a, b] ∧ a = .int .i64 r.1 ∧ b = .bool r.2) ∧ Fr w w') := by
  unfold M_slices_BinarySearchFunc_impl_IndexedSet_impl_IndexedSet_int at hr
  obtain ⟨w0, hw0⟩ : ∃ w0, w0 = w := ⟨_, rfl⟩
  have hF : Fr w0 w := hw0 ▸ Fr.refl _
  rw [show Fr w = Fr w0 from hw0 ▸ rfl]
  have f_v2 : FnB2 Try.prog E_impl_IndexedSet (eInt .i64) (fun r => .raw (.int .i64 r)) A w0 v2 p2 := hw0 ▸ h2
  clear hw0
  refine calls_of_HT2 [.tmp 6, .tmp 7] Try.func52 Try.ntmps52 (by decide) rfl rfl (Nat.le_of_ble_eq_true rfl) ?_
  intro R hR
  have f_v0 := h0
  replace h0 : R 0 = v0 := hR 0 _ rfl
  replace h1 : R 1 = .int .i64 p1 := (hR 1 _ rfl).trans h1
  replace h2 : R 2 = v2 := hR 2 _ rfl
  clear hR
  refine HT.seq ?_
  refine HT.text (l := ⟨_, true, .raw (.int .i64 (0 : Int))⟩ :: ⟨_, true, .raw (.bool false)⟩ :: []) (tl := []) (by kernel_rfl) (by kernel_rfl) (by kernel_rfl) ?_ ?_
  · exact
      Obls.cons (Obl.plain rfl rfl fun R' w' hw hs hd => by exact of_assign rfl) <|
      Obls.cons (Obl.plain rfl rfl fun R' w' hw hs hd => by exact of_assign rfl) <|
      Obls.nil
  intro R w hw hs hF'
  replace h0 : R 0 = v0 := (hs 0 rfl).trans h0
  replace h1 : R 1 = .int .i64 p1 := (hs 1 rfl).trans h1
  replace h2 : R 2 = v2 := (hs 2 rfl).trans h2
  replace f_v0 := f_v0.fr hw
  replace hA := hA.fr hw.size
  replace hF := hF.trans hw
  clear hs hF' hw
  refine seqR_nil ?_
  refine HT.seq ?_
  refine HT.text (l := ⟨_, true, .raw v0⟩ :: ⟨_, true, .raw (.int .i64 (p0.length : Int))⟩ :: ⟨_, true, .raw (.int .i64 (p0.length : Int))⟩ :: []) (tl := []) (by kernel_rfl) (by kernel_rfl) (by kernel_rfl) ?_ ?_
  · exact
      Obls.cons (Obl.plain rfl rfl fun R' w' hw hs hd => by have a0 : R' 0 = v0 := (hs 0 rfl).trans h0; exact of_move a0) <|
      Obls.cons (Obl.plain rfl rfl fun R' w' hw hs hd => by have a0 : R' 12 = v0 := hd 0 _ _ _ rfl rfl rfl rfl rfl; have ra0 := (f_v0.fr hw).eq a0; exact of_len_sl (aT := #[]) ra0 Try.underlying28) <|
      Obls.cons (Obl.plain rfl rfl fun R' w' hw hs hd => by have a0 : R' 13 = .int .i64 (p0.length : Int) := hd 0 _ _ _ rfl rfl rfl rfl rfl; exact of_assign a0) <|
      Obls.nil
  intro R w hw hs hF'
  replace h0 : R 0 = v0 := (hs 0 rfl).trans h0
  replace h1 : R 1 = .int .i64 p1 := (hs 1 rfl).trans h1
  replace h2 : R 2 = v2 := (hs 2 rfl).trans h2
  have h8 : R 8 = .int .i64 (p0.length : Int) := hF' 2 _ _ rfl rfl rfl
  replace f_v0 := f_v0.fr hw
  replace hA := hA.fr hw.size
  replace hF := hF.trans hw
  clear hs hF' hw
  refine seqR_nil ?_
  refine HT.seq ?_
  refine HT.text (l := ⟨_, true, .raw (.int .i64 (p0.length : Int))⟩ :: ⟨_, true, .raw (.int .i64 (0 : Int))⟩ :: ⟨_, true, .raw (.int .i64 (p0.length : Int))⟩ :: []) (tl := []) (by kernel_rfl) (by kernel_rfl) (by kernel_rfl) ?_ ?_
  · exact
      Obls.cons (Obl.plain rfl rfl fun R' w' hw hs hd => by have a0 : R' 8 = .int .i64 (p0.length : Int) := (hs 8 rfl).trans h8; exact of_move a0) <|
      Obls.cons (Obl.plain rfl rfl fun R' w' hw hs hd => by exact of_assign rfl) <|
      Obls.cons (Obl.plain rfl rfl fun R' w' hw hs hd => by have a0 : R' 14 = .int .i64 (p0.length : Int) := hd 0 _ _ _ rfl rfl rfl rfl rfl; exact of_assign a0) <|
      Obls.nil
  intro R w hw hs hF'
  replace h0 : R 0 = v0 := (hs 0 rfl).trans h0
  replace h1 : R 1 = .int .i64 p1 := (hs 1 rfl).trans h1
  replace h2 : R 2 = v2 := (hs 2 rfl).trans h2
  replace h8 : R 8 = .int .i64 (p0.length : Int) := (hs 8 rfl).trans h8
  have h9 : R 9 = .int .i64 (0 : Int) := hF' 1 _ _ rfl rfl rfl
  have h10 : R 10 = .int .i64 (p0.length : Int) := hF' 2 _ _ rfl rfl rfl
  replace f_v0 := f_v0.fr hw
  replace hA := hA.fr hw.size
  replace hF := hF.trans hw
  clear hs hF' hw
  refine seqR_nil ?_
  obtain ⟨rl1, q2, hr⟩ := cl_some hr
  replace q2 := q2 rfl
  refine HT.cut (fun R w => ∃ (s3 : Int), rl1 = s3 ∧ AvOK A w ∧ Fr w0 w ∧ R 0 = v0 ∧ R 1 = .int .i64 p1 ∧ R 2 = v2 ∧ R 8 = .int .i64 (p0.length : Int) ∧ R 9 = .int .i64 s3 ∧ Rep (eSl E_impl_IndexedSet) A w v0 p0) ?_ ?_
  · refine HT.block ?_
    refine HT.loop (fun k R w => ∃ (y4 : Int) (y5 : Int), M_slices_BinarySearchFunc_impl_IndexedSet_impl_IndexedSet_int_L0 fu p0 p1 p2 k y4 y5 = some rl1 ∧ AvOK A w ∧ Fr w0 w ∧ R 0 = v0 ∧ R 1 = .int .i64 p1 ∧ R 2 = v2 ∧ R 8 = .int .i64 (p0.length : Int) ∧ R 9 = .int .i64 y4 ∧ R 10 = .int .i64 y5 ∧ Rep (eSl E_impl_IndexedSet) A w v0 p0) fu ⟨_, _, q2, hA, hF, h0, h1, h2, h8, h9, h10, f_v0⟩ ?_
    have hr0 := hr; clear hr q2
    rintro k R w ⟨y4, y5, hr, hA, hF, h0, h1, h2, h8, h9, h10, f_v0⟩
    rcases k with _ | k
    · cases (show none = some _ from hr)
    rw [M_slices_BinarySearchFunc_impl_IndexedSet_impl_IndexedSet_int_L0] at hr
    refine HT.seq ?_
    refine HT.seq ?_
    refine HT.text (l := ⟨_, true, .raw (.int .i64 y4)⟩ :: ⟨_, true, .raw (.int .i64 y5)⟩ :: ⟨_, true, .raw (.bool (decide (y4 < y5)))⟩ :: []) (tl := []) (by kernel_rfl) (by kernel_rfl) (by kernel_rfl) ?_ ?_
    · exact
        Obls.cons (Obl.plain rfl rfl fun R' w' hw hs hd => by have a0 : R' 9 = .int .i64 y4 := (hs 9 rfl).trans h9; exact of_move a0) <|
        Obls.cons (Obl.plain rfl rfl fun R' w' hw hs hd => by have a0 : R' 10 = .int .i64 y5 := (hs 10 rfl).trans h10; exact of_move a0) <|
        Obls.cons (Obl.plain rfl rfl fun R' w' hw hs hd => by have a0 : R' 15 = .int .i64 y4 := hd 0 _ _ _ rfl rfl rfl rfl rfl; have a1 : R' 16 = .int .i64 y5 := hd 1 _ _ _ rfl rfl rfl rfl rfl; exact of_lss a0 a1) <|
        Obls.nil
    intro R w hw hs hF'
    replace h0 : R 0 = v0 := (hs 0 rfl).trans h0
    replace h1 : R 1 = .int .i64 p1 := (hs 1 rfl).trans h1
    replace h2 : R 2 = v2 := (hs 2 rfl).trans h2
    replace h8 : R 8 = .int .i64 (p0.length : Int) := (hs 8 rfl).trans h8
    replace h9 : R 9 = .int .i64 y4 := (hs 9 rfl).trans h9
    replace h10 : R 10 = .int .i64 y5 := (hs 10 rfl).trans h10
    have h17 : R 17 = .bool (decide (y4 < y5)) := hF' 2 _ _ rfl rfl rfl
    replace f_v0 := f_v0.fr hw
    replace hA := hA.fr hw.size
    replace hF := hF.trans hw
    clear hs hF' hw
    refine seqR_nil ?_
    refine HT.cond (decide (y4 < y5)) h17 (fun c6 => ?_) (fun c6 => ?_)
    · have hr := cnd_t c6 hr
      refine HT.skip ?_
      refine HT.block ?_
      refine HT.seq ?_
      obtain ⟨e7, hr⟩ := ck_some hr
      obtain ⟨e8, hr⟩ := ck_some hr
      refine HT.text (l := ⟨_, true, .raw (.int .i64 y4)⟩ :: ⟨_, true, .raw (.int .i64 y5)⟩ :: ⟨_, true, .raw (.int .i64 (y4 + y5))⟩ :: ⟨_, true, .raw (.int .u64 (IntKind.u64.wrap (y4 + y5)))⟩ :: ⟨_, true, .raw (.int .u64 ((IntKind.u64.wrap (y4 + y5)) / 2 ^ min (1 : Int).toNat 64))⟩ :: ⟨_, true, .raw (.int .i64 (IntKind.i64.wrap ((IntKind.u64.wrap (y4 + y5)) / 2 ^ min (1 : Int).toNat 64)))⟩ :: ⟨_, true, .raw (.int .i64 (IntKind.i64.wrap ((IntKind.u64.wrap (y4 + y5)) / 2 ^ min (1 : Int).toNat 64)))⟩ :: []) (tl := []) (by kernel_rfl) (by kernel_rfl) (by kernel_rfl) ?_ ?_
      · exact
          Obls.cons (Obl.plain rfl rfl fun R' w' hw hs hd => by have a0 : R' 9 = .int .i64 y4 := (hs 9 rfl).trans h9; exact of_move a0) <|
          Obls.cons (Obl.plain rfl rfl fun R' w' hw hs hd => by have a0 : R' 10 = .int .i64 y5 := (hs 10 rfl).trans h10; exact of_move a0) <|
          Obls.cons (Obl.plain rfl rfl fun R' w' hw hs hd => by have a0 : R' 18 = .int .i64 y4 := hd 0 _ _ _ rfl rfl rfl rfl rfl; have a1 : R' 19 = .int .i64 y5 := hd 1 _ _ _ rfl rfl rfl rfl rfl; exact of_add a0 a1 e7) <|
          Obls.cons (Obl.plain rfl rfl fun R' w' hw hs hd => by have a0 : R' 20 = .int .i64 (y4 + y5) := hd 0 _ _ _ rfl rfl rfl rfl rfl; exact of_conv_int a0 Try.underlying3 Try.underlying84) <|
          Obls.cons (Obl.plain rfl rfl fun R' w' hw hs hd => by have a0 : R' 21 = .int .u64 (IntKind.u64.wrap (y4 + y5)) := hd 0 _ _ _ rfl rfl rfl rfl rfl; exact of_shr a0 rfl e8) <|
          Obls.cons (Obl.plain rfl rfl fun R' w' hw hs hd => by have a0 : R' 22 = .int .u64 ((IntKind.u64.wrap (y4 + y5)) / 2 ^ min (1 : Int).toNat 64) := hd 0 _ _ _ rfl rfl rfl rfl rfl; exact of_conv_int a0 Try.underlying84 Try.underlying3) <|
          Obls.cons (Obl.plain rfl rfl fun R' w' hw hs hd => by have a0 : R' 23 = .int .i64 (IntKind.i64.wrap ((IntKind.u64.wrap (y4 + y5)) / 2 ^ min (1 : Int).toNat 64)) := hd 0 _ _ _ rfl rfl rfl rfl rfl; exact of_assign a0) <|
          Obls.nil
      intro R w hw hs hF'
      replace h0 : R 0 = v0 := (hs 0 rfl).trans h0
      replace h1 : R 1 = .int .i64 p1 := (hs 1 rfl).trans h1
      replace h2 : R 2 = v2 := (hs 2 rfl).trans h2
      replace h8 : R 8 = .int .i64 (p0.length : Int) := (hs 8 rfl).trans h8
      replace h9 : R 9 = .int .i64 y4 := (hs 9 rfl).trans h9
      replace h10 : R 10 = .int .i64 y5 := (hs 10 rfl).trans h10
      have h11 : R 11 = .int .i64 (IntKind.i64.wrap ((IntKind.u64.wrap (y4 + y5)) / 2 ^ min (1 : Int).toNat 64)) := hF' 6 _ _ rfl rfl rfl
      replace f_v0 := f_v0.fr hw
      replace hA := hA.fr hw.size
      replace hF := hF.trans hw
      clear hs hF' hw
      refine seqR_nil ?_
      refine HT.seq ?_
      obtain ⟨e9, hr⟩ := ck_some hr
      obtain ⟨x10, q11, hr⟩ := cl_some hr
      refine HT.text (l := ⟨_, true, .raw v2⟩ :: ⟨_, true, .raw v0⟩ :: ⟨_, true, .raw (.int .i64 (IntKind.i64.wrap ((IntKind.u64.wrap (y4 + y5)) / 2 ^ min (1 : Int).toNat 64)))⟩ :: ⟨_, true, .qtr E_impl_IndexedSet A (gtD p0 (IntKind.i64.wrap ((IntKind.u64.wrap (y4 + y5)) / 2 ^ min (1 : Int).toNat 64)))⟩ :: ⟨_, true, .rep E_impl_IndexedSet A (gtD p0 (IntKind.i64.wrap ((IntKind.u64.wrap (y4 + y5)) / 2 ^ min (1 : Int).toNat 64)))⟩ :: ⟨_, true, .raw (.int .i64 p1)⟩ :: ⟨_, true, .raw (.int .i64 x10)⟩ :: ⟨_, true, .raw (.bool (decide (x10 < (0 : Int))))⟩ :: []) (tl := []) (by kernel_rfl) (by kernel_rfl) (by kernel_rfl) ?_ ?_
      · exact
          Obls.cons (Obl.plain rfl rfl fun R' w' hw hs hd => by have a0 : R' 2 = v2 := (hs 2 rfl).trans h2; exact of_move a0) <|
          Obls.cons (Obl.plain rfl rfl fun R' w' hw hs hd => by have a0 : R' 0 = v0 := (hs 0 rfl).trans h0; exact of_move a0) <|
          Obls.cons (Obl.plain rfl rfl fun R' w' hw hs hd => by have a0 : R' 11 = .int .i64 (IntKind.i64.wrap ((IntKind.u64.wrap (y4 + y5)) / 2 ^ min (1 : Int).toNat 64)) := (hs 11 rfl).trans h11; exact of_move a0) <|
          Obls.cons (Obl.plain rfl rfl fun R' w' hw hs hd => by have a0 : R' 25 = v0 := hd 0 _ _ _ rfl rfl rfl rfl rfl; have a1 : R' 26 = .int .i64 (IntKind.i64.wrap ((IntKind.u64.wrap (y4 + y5)) / 2 ^ min (1 : Int).toNat 64)) := hd 1 _ _ _ rfl rfl rfl rfl rfl; have ra0 := (f_v0.fr hw).eq a0; exact of_indexAddr ra0 a1 Try.underlying28 Try.sizeOf55 e9) <|
          Obls.cons (Obl.plain rfl rfl fun R' w' hw hs hd => by have a0 : QRep E_impl_IndexedSet A w' (R' 27) (gtD p0 (IntKind.i64.wrap ((IntKind.u64.wrap (y4 + y5)) / 2 ^ min (1 : Int).toNat 64))) := hd 0 _ _ _ rfl rfl rfl rfl rfl; exact (of_load a0.ptr Try.isAgg55 Try.sizeOf55)) <|
          Obls.cons (Obl.plain rfl rfl fun R' w' hw hs hd => by have a0 : R' 1 = .int .i64 p1 := (hs 1 rfl).trans h1; exact of_move a0) <|
          Obls.cons (Obl.plain rfl rfl fun R' w' hw hs hd => by have a0 : R' 24 = v2 := hd 0 _ _ _ rfl rfl rfl rfl rfl; have a1 : Rep E_impl_IndexedSet A w' (R' 28) (gtD p0 (IntKind.i64.wrap ((IntKind.u64.wrap (y4 + y5)) / 2 ^ min (1 : Int).toNat 64))) := hd 1 _ _ _ rfl rfl rfl rfl rfl; have a2 : R' 29 = .int .i64 p1 := hd 2 _ _ _ rfl rfl rfl rfl rfl; exact of_callv a0 (f_v2 _ _ _ (q11 rfl) _ _ _ ((hF.trans hw).ch _) (hA.fr hw.size) a1 (rep_int.eq a2))) <|
          Obls.cons (Obl.plain rfl rfl fun R' w' hw hs hd => by have a0 : R' 30 = .int .i64 x10 := hd 0 _ _ _ rfl rfl rfl rfl rfl; exact of_lss a0 rfl) <|
          Obls.nil
      intro R w hw hs hF'
      replace h0 : R 0 = v0 := (hs 0 rfl).trans h0
      replace h1 : R 1 = .int .i64 p1 := (hs 1 rfl).trans h1
      replace h2 : R 2 = v2 := (hs 2 rfl).trans h2
      replace h8 : R 8 = .int .i64 (p0.length : Int) := (hs 8 rfl).trans h8
      replace h9 : R 9 = .int .i64 y4 := (hs 9 rfl).trans h9
      replace h10 : R 10 = .int .i64 y5 := (hs 10 rfl).trans h10
      replace h11 : R 11 = .int .i64 (IntKind.i64.wrap ((IntKind.u64.wrap (y4 + y5)) / 2 ^ min (1 : Int).toNat 64)) := (hs 11 rfl).trans h11
      have h31 : R 31 = .bool (decide (x10 < (0 : Int))) := hF' 7 _ _ rfl rfl rfl
      replace f_v0 := f_v0.fr hw
      replace hA := hA.fr hw.size
      replace hF := hF.trans hw
      clear hs hF' hw
      refine seqR_nil ?_
      refine HT.cond (decide (x10 < (0 : Int))) h31 (fun c12 => ?_) (fun c12 => ?_)
      · have hr := cnd_t c12 hr
        obtain ⟨e13, hr⟩ := ck_some hr
        refine HT.text (l := ⟨_, true, .raw (.int .i64 (IntKind.i64.wrap ((IntKind.u64.wrap (y4 + y5)) / 2 ^ min (1 : Int).toNat 64)))⟩ :: ⟨_, true, .raw (.int .i64 ((IntKind.i64.wrap ((IntKind.u64.wrap (y4 + y5)) / 2 ^ min (1 : Int).toNat 64)) + (1 : Int)))⟩ :: ⟨_, true, .raw (.int .i64 ((IntKind.i64.wrap ((IntKind.u64.wrap (y4 + y5)) / 2 ^ min (1 : Int).toNat 64)) + (1 : Int)))⟩ :: []) (tl := []) (by kernel_rfl) (by kernel_rfl) (by kernel_rfl) ?_ ?_
        · exact
            Obls.cons (Obl.plain rfl rfl fun R' w' hw hs hd => by have a0 : R' 11 = .int .i64 (IntKind.i64.wrap ((IntKind.u64.wrap (y4 + y5)) / 2 ^ min (1 : Int).toNat 64)) := (hs 11 rfl).trans h11; exact of_move a0) <|
            Obls.cons (Obl.plain rfl rfl fun R' w' hw hs hd => by have a0 : R' 32 = .int .i64 (IntKind.i64.wrap ((IntKind.u64.wrap (y4 + y5)) / 2 ^ min (1 : Int).toNat 64)) := hd 0 _ _ _ rfl rfl rfl rfl rfl; exact of_add a0 rfl e13) <|
            Obls.cons (Obl.plain rfl rfl fun R' w' hw hs hd => by have a0 : R' 33 = .int .i64 ((IntKind.i64.wrap ((IntKind.u64.wrap (y4 + y5)) / 2 ^ min (1 : Int).toNat 64)) + (1 : Int)) := hd 0 _ _ _ rfl rfl rfl rfl rfl; exact of_assign a0) <|
            Obls.nil
        intro R w hw hs hF'
        replace h0 : R 0 = v0 := (hs 0 rfl).trans h0
        replace h1 : R 1 = .int .i64 p1 := (hs 1 rfl).trans h1
        replace h2 : R 2 = v2 := (hs 2 rfl).trans h2
        replace h8 : R 8 = .int .i64 (p0.length : Int) := (hs 8 rfl).trans h8
        replace h10 : R 10 = .int .i64 y5 := (hs 10 rfl).trans h10
        have h9 : R 9 = .int .i64 ((IntKind.i64.wrap ((IntKind.u64.wrap (y4 + y5)) / 2 ^ min (1 : Int).toNat 64)) + (1 : Int)) := hF' 2 _ _ rfl rfl rfl
        replace f_v0 := f_v0.fr hw
        replace hA := hA.fr hw.size
        replace hF := hF.trans hw
        clear hs hF' hw
        refine seqR_nil ?_
        exact Exists.intro k (And.intro (Nat.lt_succ_self k) ⟨_, _, hr, hA, hF, h0, h1, h2, h8, h9, h10, f_v0⟩)
      · have hr := cnd_f c12 hr
        refine HT.text (l := ⟨_, true, .raw (.int .i64 (IntKind.i64.wrap ((IntKind.u64.wrap (y4 + y5)) / 2 ^ min (1 : Int).toNat 64)))⟩ :: ⟨_, true, .raw (.int .i64 (IntKind.i64.wrap ((IntKind.u64.wrap (y4 + y5)) / 2 ^ min (1 : Int).toNat 64)))⟩ :: []) (tl := []) (by kernel_rfl) (by kernel_rfl) (by kernel_rfl) ?_ ?_
        · exact
            Obls.cons (Obl.plain rfl rfl fun R' w' hw hs hd => by have a0 : R' 11 = .int .i64 (IntKind.i64.wrap ((IntKind.u64.wrap (y4 + y5)) / 2 ^ min (1 : Int).toNat 64)) := (hs 11 rfl).trans h11; exact of_move a0) <|
            Obls.cons (Obl.plain rfl rfl fun R' w' hw hs hd => by have a0 : R' 34 = .int .i64 (IntKind.i64.wrap ((IntKind.u64.wrap (y4 + y5)) / 2 ^ min (1 : Int).toNat 64)) := hd 0 _ _ _ rfl rfl rfl rfl rfl; exact of_assign a0) <|
            Obls.nil
        intro R w hw hs hF'
        replace h0 : R 0 = v0 := (hs 0 rfl).trans h0
        replace h1 : R 1 = .int .i64 p1 := (hs 1 rfl).trans h1
        replace h2 : R 2 = v2 := (hs 2 rfl).trans h2
        replace h8 : R 8 = .int .i64 (p0.length : Int) := (hs 8 rfl).trans h8
        replace h9 : R 9 = .int .i64 y4 := (hs 9 rfl).trans h9
        have h10 : R 10 = .int .i64 (IntKind.i64.wrap ((IntKind.u64.wrap (y4 + y5)) / 2 ^ min (1 : Int).toNat 64)) := hF' 1 _ _ rfl rfl rfl
        replace f_v0 := f_v0.fr hw
        replace hA := hA.fr hw.size
        replace hF := hF.trans hw
        clear hs hF' hw
        refine seqR_nil ?_
        exact Exists.intro k (And.intro (Nat.lt_succ_self k) ⟨_, _, hr, hA, hF, h0, h1, h2, h8, h9, h10, f_v0⟩)
    · have hr := cnd_f c6 hr
      refine HT.exit ?_
      obtain rfl := Option.some.inj hr
      exact Exists.intro _ ⟨rfl, hA, hF, h0, h1, h2, h8, h9, f_v0⟩
  rintro R w ⟨s3, es, hA, hF, h0, h1, h2, h8, h9, f_v0⟩
  obtain rfl := es.symm
  refine HT.seq ?_
  obtain ⟨e14, hr⟩ := ck_some hr
  obtain ⟨x15, q16, hr⟩ := cl_some hr
  obtain ⟨x17, q18, hr⟩ := bd_some hr
  refine HT.text (l := ⟨_, true, .raw (.int .i64 s3)⟩ :: ⟨_, true, .raw (.int .i64 s3)⟩ :: ⟨_, true, .raw (.int .i64 (p0.length : Int))⟩ :: ⟨_, true, .raw (.bool (decide (s3 < (p0.length : Int))))⟩ :: ⟨_, true, .raw (.bool (decide (s3 < (p0.length : Int))))⟩ :: ⟨_, (true && ((decide (s3 < (p0.length : Int))) == true)), .raw v2⟩ :: ⟨_, (true && ((decide (s3 < (p0.length : Int))) == true)), .raw v0⟩ :: ⟨_, (true && ((decide (s3 < (p0.length : Int))) == true)), .raw (.int .i64 s3)⟩ :: ⟨_, (true && ((decide (s3 < (p0.length : Int))) == true)), .qtr E_impl_IndexedSet A (gtD p0 s3)⟩ :: ⟨_, (true && ((decide (s3 < (p0.length : Int))) == true)), .rep E_impl_IndexedSet A (gtD p0 s3)⟩ :: ⟨_, (true && ((decide (s3 < (p0.length : Int))) == true)), .raw (.int .i64 p1)⟩ :: ⟨_, (true && ((decide (s3 < (p0.length : Int))) == true)), .raw (.int .i64 x15)⟩ :: ⟨_, (true && ((decide (s3 < (p0.length : Int))) == true)), .raw (.bool (x15 == (0 : Int)))⟩ :: ⟨_, true, .raw (.bool x17)⟩ :: ⟨_, true, .raw (.int .i64 s3)⟩ :: ⟨_, true, .raw (.bool x17)⟩ :: []) (tl := []) (by kernel_rfl) (by kernel_rfl) (by kernel_rfl) ?_ ?_
  · exact
      Obls.cons (Obl.plain rfl rfl fun R' w' hw hs hd => by have a0 : R' 9 = .int .i64 s3 := (hs 9 rfl).trans h9; exact of_move a0) <|
      Obls.cons (Obl.plain rfl rfl fun R' w' hw hs hd => by have a0 : R' 9 = .int .i64 s3 := (hs 9 rfl).trans h9; exact of_move a0) <|
      Obls.cons (Obl.plain rfl rfl fun R' w' hw hs hd => by have a0 : R' 8 = .int .i64 (p0.length : Int) := (hs 8 rfl).trans h8; exact of_move a0) <|
      Obls.cons (Obl.plain rfl rfl fun R' w' hw hs hd => by have a0 : R' 36 = .int .i64 s3 := hd 0 _ _ _ rfl rfl rfl rfl rfl; have a1 : R' 37 = .int .i64 (p0.length : Int) := hd 1 _ _ _ rfl rfl rfl rfl rfl; exact of_lss a0 a1) <|
      Obls.cons (Obl.plain rfl rfl fun R' w' hw hs hd => by have a0 : R' 38 = .bool (decide (s3 < (p0.length : Int))) := hd 0 _ _ _ rfl rfl rfl rfl rfl; exact of_move a0) <|
      Obls.cons (Obl.grd 4 true _ _ _ rfl rfl rfl rfl rfl (by kernel_rfl) fun hg R' w' hw hs hd => by have a0 : R' 2 = v2 := (hs 2 rfl).trans h2; exact of_move a0) <|
      Obls.cons (Obl.grd 4 true _ _ _ rfl rfl rfl rfl rfl (by kernel_rfl) fun hg R' w' hw hs hd => by have a0 : R' 0 = v0 := (hs 0 rfl).trans h0; exact of_move a0) <|
      Obls.cons (Obl.grd 4 true _ _ _ rfl rfl rfl rfl rfl (by kernel_rfl) fun hg R' w' hw hs hd => by have a0 : R' 9 = .int .i64 s3 := (hs 9 rfl).trans h9; exact of_move a0) <|
      Obls.cons (Obl.grd 4 true _ _ _ rfl rfl rfl rfl rfl (by kernel_rfl) fun hg R' w' hw hs hd => by have a0 : R' 41 = v0 := hd 0 _ _ _ rfl rfl rfl rfl hg; have a1 : R' 42 = .int .i64 s3 := hd 1 _ _ _ rfl rfl rfl rfl hg; have ra0 := (f_v0.fr hw).eq a0; exact of_indexAddr ra0 a1 Try.underlying28 Try.sizeOf55 (gd e14 hg)) <|
      Obls.cons (Obl.grd 4 true _ _ _ rfl rfl rfl rfl rfl (by kernel_rfl) fun hg R' w' hw hs hd => by have a0 : QRep E_impl_IndexedSet A w' (R' 43) (gtD p0 s3) := hd 0 _ _ _ rfl rfl rfl rfl hg; exact (of_load a0.ptr Try.isAgg55 Try.sizeOf55)) <|
      Obls.cons (Obl.grd 4 true _ _ _ rfl rfl rfl rfl rfl (by kernel_rfl) fun hg R' w' hw hs hd => by have a0 : R' 1 = .int .i64 p1 := (hs 1 rfl).trans h1; exact of_move a0) <|
      Obls.cons (Obl.grd 4 true _ _ _ rfl rfl rfl rfl rfl (by kernel_rfl) fun hg R' w' hw hs hd => by have a0 : R' 40 = v2 := hd 0 _ _ _ rfl rfl rfl rfl hg; have a1 : Rep E_impl_IndexedSet A w' (R' 44) (gtD p0 s3) := hd 1 _ _ _ rfl rfl rfl rfl hg; have a2 : R' 45 = .int .i64 p1 := hd 2 _ _ _ rfl rfl rfl rfl hg; exact of_callv a0 (f_v2 _ _ _ (q16 hg) _ _ _ ((hF.trans hw).ch _) (hA.fr hw.size) a1 (rep_int.eq a2))) <|
      Obls.cons (Obl.grd 4 true _ _ _ rfl rfl rfl rfl rfl (by kernel_rfl) fun hg R' w' hw hs hd => by have a0 : R' 46 = .int .i64 x15 := hd 0 _ _ _ rfl rfl rfl rfl hg; exact of_eql a0 rfl) <|
      Obls.cons (Obl.plain rfl rfl fun R' w' hw hs hd => by have a0 : R' 39 = .bool (decide (s3 < (p0.length : Int))) := hd 0 _ _ _ rfl rfl rfl rfl rfl; exact of_pick (decide (s3 < (p0.length : Int))) a0 (fun hc => by have a1 : R' 47 = .bool (x15 == (0 : Int)) := hd 1 _ _ _ rfl rfl rfl rfl (g_and rfl (beq_of hc)); show _ = Value.bool x17; rw [q18, hc]; exact a1) (fun hc => by show _ = Value.bool x17; rw [q18, hc]; exact rfl)) <|
      Obls.cons (Obl.plain rfl rfl fun R' w' hw hs hd => by have a0 : R' 35 = .int .i64 s3 := hd 0 _ _ _ rfl rfl rfl rfl rfl; exact of_assign a0) <|
      Obls.cons (Obl.plain rfl rfl fun R' w' hw hs hd => by have a0 : R' 48 = .bool x17 := hd 0 _ _ _ rfl rfl rfl rfl rfl; exact of_assign a0) <|
      Obls.nil
  intro R w hw hs hF'
  have h6 : R 6 = .int .i64 s3 := hF' 14 _ _ rfl rfl rfl
  have h7 : R 7 = .bool x17 := hF' 15 _ _ rfl rfl rfl
  replace hA := hA.fr hw.size
  replace hF := hF.trans hw
  clear hs hF' hw
  refine seqR_nil ?_
  refine HT.ret ?_
  obtain rfl := Option.some.inj hr
  exact ⟨.inr rfl, [R 6, R 7], ⟨rfl, ⟨rfl, trivial⟩⟩, ⟨_, _, rfl, h6, h7⟩, hF⟩
def M_impl_SetIndex_find_1 (fu : Nat) (p0 : T_impl_IndexedSet) (p1 : Int) : Option Int :=
  ck (i64B (p0.1 - p1)) <|
  some (p0.1 - p1)
set_option maxRecDepth 100000 in
set_option maxHeartbeats 4000000 in
theorem M_impl_SetIndex_find_1_ok {fu : Nat} {A0 : Av} {p0 : T_impl_IndexedSet} {p1 : Int} {r : Int} (hr : M_impl_SetIndex_find_1 fu p0 p1 = some r) {w : World} {v0 : Value} {v1 : Value} (hA : AvOK A0 w) (h0 : Rep E_impl_IndexedSet A0 w v0 p0) (h1 : v1 = .int .i64 p1) :
    Calls Try.prog 53 #[v0, v1] w fun e w' => ∃ v, e = .returned v ∧ (v = .int .i64 r ∧ Fr w w') := by
  unfold M_impl_SetIndex_find_1 at hr
  obtain ⟨w0, hw0⟩ : ∃ w0, w0 = w := ⟨_, rfl⟩
  have hF : Fr w0 w := hw0 ▸ Fr.refl _
  have hA0 : ∀ b o, A0 b o → b < w0.heap.size := fun b o h => hw0 ▸ hA b o h
  have hA00 : AvOK A0 w0 := hA0
  rw [show Fr w = Fr w0 from hw0 ▸ rfl]
  clear hw0
  obtain ⟨A, hAe⟩ : ∃ A, A = A0 := ⟨_, rfl⟩
  have hAA : ∀ b o, A0 b o → A b o := fun b o h => hAe ▸ h
  replace hA : AvOK A w := hAe ▸ hA
  have hO : IniOK [] A w := IniOK.nil
  refine calls_of_HT2 [.tmp 4] Try.func53 Try.ntmps53 (by decide) rfl rfl (Nat.le_of_ble_eq_true rfl) ?_
  intro R hR
  have f_v0 : Rep E_impl_IndexedSet A w v0 p0 := hAe ▸ h0
  replace h0 : R 0 = v0 := hR 0 _ rfl
  replace h1 : R 1 = .int .i64 p1 := (hR 1 _ rfl).trans h1
  clear hR hAe
  refine HT.seq ?_
  refine HT.textR [] (⟨_, true, [], some (.box w0.heap.size 55 E_impl_IndexedSet p0), true, fun A => .any⟩ :: ⟨_, true, [], none, true, fun A => .raw (.int .i64 (0 : Int))⟩ :: []) (by kernel_rfl) (by kernel_rfl) (Wf.mk' (by kernel_rfl) (UAll.cons ust_any (UAll.cons ust_raw (UAll.nil))) (by kernel_rfl) (by kernel_rfl)) hO hA ?_ ?_
  · exact
      OblsR.cons (OblR.made _ rfl rfl rfl rfl fun A' R' w' ho hd => by have a0 : R' 0 = v0 := (ho.old 0 rfl).trans h0; have ra0 := (f_v0.stp ho.stp).eq a0; exact made_box ra0 (Nat.le_trans hF.size ho.ch.size)) <|
      OblsR.cons (OblR.plain rfl rfl rfl rfl fun A' R' w' ho hd => by exact of_assign rfl) <|
      OblsR.nil
  intro done ρ σ A R w hdn hI
  replace h1 : R 1 = .int .i64 p1 := (hI.reg rfl).trans h1
  obtain ⟨b2_0, e_b2_0⟩ := hI.boxv hdn 0 rfl rfl
  have h2 : R 2 = (.pointer (some ⟨b2_0, 0, none⟩)) := (hI.opvR hdn 0 0 rfl rfl rfl rfl rfl).symm.trans e_b2_0
  replace hAA := hI.low' hAA hA0 (hO.ge (trivial))
  replace hF : Fr w0 w := hF.tr hI.ch (hO.ge (trivial))
  replace hO : IniOK [ob (.pointer (some ⟨b2_0, 0, none⟩)) (.box w0.heap.size 55 E_impl_IndexedSet p0)] A w := hI.left hdn [(0, ob (.pointer (some ⟨b2_0, 0, none⟩)) (.box w0.heap.size 55 E_impl_IndexedSet p0))] ⟨rfl, rfl, e_b2_0, rfl, rfl, trivial⟩
  replace hA := hI.avok
  clear hI
  refine HT.seq ?_
  obtain ⟨e2, hr⟩ := ck_some hr
  refine HT.text (l := ⟨_, true, .raw (.pointer (some ⟨b2_0, 0, none⟩))⟩ :: ⟨_, true, .raw (.int .i64 p0.1)⟩ :: ⟨_, true, .raw (.int .i64 p1)⟩ :: ⟨_, true, .raw (.int .i64 (p0.1 - p1))⟩ :: ⟨_, true, .raw (.int .i64 (p0.1 - p1))⟩ :: []) (tl := []) (by kernel_rfl) (by kernel_rfl) (by kernel_rfl) ?_ ?_
  · exact
      Obls.cons (Obl.plain rfl rfl fun R' w' hw hs hd => by have a0 : R' 2 = (.pointer (some ⟨b2_0, 0, none⟩)) := (hs 2 rfl).trans h2; exact of_fieldAddr_raw a0 ff_55_0 Try.sizeOf3 (by decide) rfl) <|
      Obls.cons (Obl.plain rfl rfl fun R' w' hw hs hd => by have a0 : R' 5 = (.pointer (some ⟨b2_0, 0, none⟩)) := hd 0 _ _ _ rfl rfl rfl rfl rfl; exact OpF.int (of_load_box ((hO.fr hw).ok 0 _ rfl).1 a0 fl_impl_IndexedSet_0 rfl Try.isAgg3 Try.sizeOf3)) <|
      Obls.cons (Obl.plain rfl rfl fun R' w' hw hs hd => by have a0 : R' 1 = .int .i64 p1 := (hs 1 rfl).trans h1; exact of_move a0) <|
      Obls.cons (Obl.plain rfl rfl fun R' w' hw hs hd => by have a0 : R' 6 = .int .i64 p0.1 := hd 0 _ _ _ rfl rfl rfl rfl rfl; have a1 : R' 7 = .int .i64 p1 := hd 1 _ _ _ rfl rfl rfl rfl rfl; exact of_sub a0 a1 e2) <|
      Obls.cons (Obl.plain rfl rfl fun R' w' hw hs hd => by have a0 : R' 8 = .int .i64 (p0.1 - p1) := hd 0 _ _ _ rfl rfl rfl rfl rfl; exact of_assign a0) <|
      Obls.nil
  intro R w hw hs hF'
  have h4 : R 4 = .int .i64 (p0.1 - p1) := hF' 4 _ _ rfl rfl rfl
  replace hO := hO.fr hw
  replace hO : IniOK [] A w := hO.sub [] trivial
  replace hA := hA.fr hw.size
  replace hF := hF.trans hw
  clear hs hF' hw
  refine seqR_nil ?_
  refine HT.ret ?_
  obtain rfl := Option.some.inj hr
  exact ⟨.inr rfl, [R 4], ⟨rfl, trivial⟩, h4, hF⟩
def M_impl_SetIndex_find (fu : Nat) (p0 : T_impl_SetIndex) (p1 : Int) : Option (Int × Bool) :=
  cl true (M_slices_BinarySearchFunc_impl_IndexedSet_impl_IndexedSet_int fu p0.2.2 p1 (fun x y => M_impl_SetIndex_find_1 fu x y)) fun x2 =>
  some (x2.1, x2.2)
set_option maxRecDepth 100000 in
set_option maxHeartbeats 4000000 in
theorem M_impl_SetIndex_find_ok {fu : Nat} {A0 : Av} {p0 : T_impl_SetIndex} {p1 : Int} {r : Int × Bool} (hr : M_impl_SetIndex_find fu p0 p1 = some r) {w : World} {v0 : Value} {v1 : Value} (hA : AvOK A0 w) (h0 : Rep E_impl_SetIndex A0 w v0 p0) (h1 : v1 = .int .i64 p1) :
    Calls Try.prog 28 #[v0, v1] w fun e w' => ∃ v, e = .returned v ∧ ((∃ a b, v = .tuple #[a, b] ∧ a = .int .i64 r.1 ∧ b = .bool r.2) ∧ Fr w w') := by
  unfold M_impl_SetIndex_find at hr
  obtain ⟨w0, hw0⟩ : ∃ w0, w0 = w := ⟨_, rfl⟩
  have hF : Fr w0 w := hw0 ▸ Fr.refl _
  have hA0 : ∀ b o, A0 b o → b < w0.heap.size := fun b o h => hw0 ▸ hA b o h
  have hA00 : AvOK A0 w0 := hA0
  rw [show Fr w = Fr w0 from hw0 ▸ rfl]
  clear hw0
  obtain ⟨A, hAe⟩ : ∃ A, A = A0 := ⟨_, rfl⟩
  have hAA : ∀ b o, A0 b o → A b o := fun b o h => hAe ▸ h
  replace hA : AvOK A w := hAe ▸ hA
  have hO : IniOK [] A w := IniOK.nil
  refine calls_of_HT2 [.tmp 4, .tmp 5] Try.func28 Try.ntmps28 (by decide) rfl rfl (Nat.le_of_ble_eq_true rfl) ?_
  intro R hR
  have f_v0 : Rep E_impl_SetIndex A w v0 p0 := hAe ▸ h0
  replace h0 : R 0 = v0 := hR 0 _ rfl
  replace h1 : R 1 = .int .i64 p1 := (hR 1 _ rfl).trans h1
  clear hR hAe
  refine HT.seq ?_
  refine HT.textR [] (⟨_, true, [], some (.box w0.heap.size 30 E_impl_SetIndex p0), true, fun A => .any⟩ :: ⟨_, true, [], none, true, fun A => .raw (.int .i64 (0 : Int))⟩ :: ⟨_, true, [], none, true, fun A => .raw (.bool false)⟩ :: []) (by kernel_rfl) (by kernel_rfl) (Wf.mk' (by kernel_rfl) (UAll.cons ust_any (UAll.cons ust_raw (UAll.cons ust_raw (UAll.nil)))) (by kernel_rfl) (by kernel_rfl)) hO hA ?_ ?_
  · exact
      OblsR.cons (OblR.made _ rfl rfl rfl rfl fun A' R' w' ho hd => by have a0 : R' 0 = v0 := (ho.old 0 rfl).trans h0; have ra0 := (f_v0.stp ho.stp).eq a0; exact made_box ra0 (Nat.le_trans hF.size ho.ch.size)) <|
      OblsR.cons (OblR.plain rfl rfl rfl rfl fun A' R' w' ho hd => by exact of_assign rfl) <|
      OblsR.cons (OblR.plain rfl rfl rfl rfl fun A' R' w' ho hd => by exact of_assign rfl) <|
      OblsR.nil
  intro done ρ σ A R w hdn hI
  replace h1 : R 1 = .int .i64 p1 := (hI.reg rfl).trans h1
  obtain ⟨b2_0, e_b2_0⟩ := hI.boxv hdn 0 rfl rfl
  have h2 : R 2 = (.pointer (some ⟨b2_0, 0, none⟩)) := (hI.opvR hdn 0 0 rfl rfl rfl rfl rfl).symm.trans e_b2_0
  replace hAA := hI.low' hAA hA0 (hO.ge (trivial))
  replace hF : Fr w0 w := hF.tr hI.ch (hO.ge (trivial))
  replace hO : IniOK [ob (.pointer (some ⟨b2_0, 0, none⟩)) (.box w0.heap.size 30 E_impl_SetIndex p0)] A w := hI.left hdn [(0, ob (.pointer (some ⟨b2_0, 0, none⟩)) (.box w0.heap.size 30 E_impl_SetIndex p0))] ⟨rfl, rfl, e_b2_0, rfl, rfl, trivial⟩
  replace hA := hI.avok
  clear hI
  refine HT.seq ?_
  obtain ⟨x2, q3, hr⟩ := cl_some hr
  refine HT.text (l := ⟨_, true, .raw (.pointer (some ⟨b2_0, 2, none⟩))⟩ :: ⟨_, true, .rep (eSl E_impl_IndexedSet) A p0.2.2⟩ :: ⟨_, true, .raw (.int .i64 p1)⟩ :: ⟨_, true, .tup2 (.raw (.int .i64 x2.1)) (.raw (.bool x2.2))⟩ :: ⟨_, true, .raw (.int .i64 x2.1)⟩ :: ⟨_, true, .raw (.bool x2.2)⟩ :: ⟨_, true, .raw (.int .i64 x2.1)⟩ :: ⟨_, true, .raw (.bool x2.2)⟩ :: []) (tl := []) (by kernel_rfl) (by kernel_rfl) (by kernel_rfl) ?_ ?_
  · exact
      Obls.cons (Obl.plain rfl rfl fun R' w' hw hs hd => by have a0 : R' 2 = (.pointer (some ⟨b2_0, 0, none⟩)) := (hs 2 rfl).trans h2; exact of_fieldAddr_raw a0 ff_30_2 Try.sizeOf28 (by decide) rfl) <|
      Obls.cons (Obl.plain rfl rfl fun R' w' hw hs hd => by have a0 : R' 6 = (.pointer (some ⟨b2_0, 2, none⟩)) := hd 0 _ _ _ rfl rfl rfl rfl rfl; exact (of_load_box ((hO.fr hw).ok 0 _ rfl).1 a0 fl_impl_SetIndex_2 rfl Try.isAgg28 Try.sizeOf28)) <|
      Obls.cons (Obl.plain rfl rfl fun R' w' hw hs hd => by have a0 : R' 1 = .int .i64 p1 := (hs 1 rfl).trans h1; exact of_move a0) <|
      Obls.cons (Obl.plain rfl rfl fun R' w' hw hs hd => by have a0 : Rep (eSl E_impl_IndexedSet) A w' (R' 7) p0.2.2 := hd 0 _ _ _ rfl rfl rfl rfl rfl; have a1 : R' 8 = .int .i64 p1 := hd 1 _ _ _ rfl rfl rfl rfl rfl; exact of_call Try.call52 (M_slices_BinarySearchFunc_impl_IndexedSet_impl_IndexedSet_int_ok (q3 rfl) (hA.fr hw.size) a0 a1 (fnb2_of [] rfl Try.call53 (fun x y r hr' w'' a b hF' hA' ha hb => M_impl_SetIndex_find_1_ok hr' hA' ha (rep_int_eq hb))))) <|
      Obls.cons (Obl.plain rfl rfl fun R' w' hw hs hd => by have a0 : Fact.ok (.tup2 (.raw (.int .i64 x2.1)) (.raw (.bool x2.2))) (R' 9) w' := hd 0 _ _ _ rfl rfl rfl rfl rfl; exact of_extract2_0 a0) <|
      Obls.cons (Obl.plain rfl rfl fun R' w' hw hs hd => by have a0 : Fact.ok (.tup2 (.raw (.int .i64 x2.1)) (.raw (.bool x2.2))) (R' 9) w' := hd 0 _ _ _ rfl rfl rfl rfl rfl; exact of_extract2_1 a0) <|
      Obls.cons (Obl.plain rfl rfl fun R' w' hw hs hd => by have a0 : R' 10 = .int .i64 x2.1 := hd 0 _ _ _ rfl rfl rfl rfl rfl; exact of_assign a0) <|
      Obls.cons (Obl.plain rfl rfl fun R' w' hw hs hd => by have a0 : R' 11 = .bool x2.2 := hd 0 _ _ _ rfl rfl rfl rfl rfl; exact of_assign a0) <|
      Obls.nil
  intro R w hw hs hF'
  have h4 : R 4 = .int .i64 x2.1 := hF' 6 _ _ rfl rfl rfl
  have h5 : R 5 = .bool x2.2 := hF' 7 _ _ rfl rfl rfl
  replace hO := hO.fr hw
  replace hO : IniOK [] A w := hO.sub [] trivial
  replace hA := hA.fr hw.size
  replace hF := hF.trans hw
  clear hs hF' hw
  refine seqR_nil ?_
  refine HT.ret ?_
  obtain rfl := Option.some.inj hr
  exact ⟨.inr rfl, [R 4, R 5], ⟨rfl, ⟨rfl, trivial⟩⟩, ⟨_, _, rfl, h4, h5⟩, hF⟩
def M_laws_eqTokenCount (fu : Nat) (p0 : T_impl_TokenCount) (p1 : T_impl_TokenCount) : Option Bool :=
  bif (!(p0.1 == p1.1)) then (
    some false
  ) else (
    bif (p0.2 != p1.2) then (
      some false
    ) else (
      some true
    )
  )
set_option maxRecDepth 100000 in
set_option maxHeartbeats 4000000 in
theorem M_laws_eqTokenCount_ok {fu : Nat} {A0 : Av} {p0 : T_impl_TokenCount} {p1 : T_impl_TokenCount} {r : Bool} (hr : M_laws_eqTokenCount fu p0 p1 = some r) {w : World} {v0 : Value} {v1 : Value} (hA : AvOK A0 w) (h0 : Rep E_impl_TokenCount A0 w v0 p0) (h1 : Rep E_impl_TokenCount A0 w v1 p1) :
    Calls Try.prog 54 #[v0, v1] w fun e w' => ∃ v, e = .returned v ∧ (v = .bool r ∧ Fr w w') := by
  unfold M_laws_eqTokenCount at hr
  obtain ⟨w0, hw0⟩ : ∃ w0, w0 = w := ⟨_, rfl⟩
  have hF : Fr w0 w := hw0 ▸ Fr.refl _
  have hA0 : ∀ b o, A0 b o → b < w0.heap.size := fun b o h => hw0 ▸ hA b o h
  have hA00 : AvOK A0 w0 := hA0
  rw [show Fr w = Fr w0 from hw0 ▸ rfl]
  clear hw0
  obtain ⟨A, hAe⟩ : ∃ A, A = A0 := ⟨_, rfl⟩
  have hAA : ∀ b o, A0 b o → A b o := fun b o h => hAe ▸ h
  replace hA : AvOK A w := hAe ▸ hA
  have hO : IniOK [] A w := IniOK.nil
  refine calls_of_HT2 [.tmp 4] Try.func54 Try.ntmps54 (by decide) rfl rfl (Nat.le_of_ble_eq_true rfl) ?_
  intro R hR
  have f_v0 : Rep E_impl_TokenCount A w v0 p0 := hAe ▸ h0
  replace h0 : R 0 = v0 := hR 0 _ rfl
  have f_v1 : Rep E_impl_TokenCount A w v1 p1 := hAe ▸ h1
  replace h1 : R 1 = v1 := hR 1 _ rfl
  clear hR hAe
  refine HT.seq ?_
  refine HT.textR [] (⟨_, true, [], some (.box w0.heap.size 70 E_impl_TokenCount p0), true, fun A => .any⟩ :: ⟨_, true, [], some (.box w0.heap.size 70 E_impl_TokenCount p1), true, fun A => .any⟩ :: ⟨_, true, [], none, true, fun A => .raw (.bool false)⟩ :: []) (by kernel_rfl) (by kernel_rfl) (Wf.mk' (by kernel_rfl) (UAll.cons ust_any (UAll.cons ust_any (UAll.cons ust_raw (UAll.nil)))) (by kernel_rfl) (by kernel_rfl)) hO hA ?_ ?_
  · exact
      OblsR.cons (OblR.made _ rfl rfl rfl rfl fun A' R' w' ho hd => by have a0 : R' 0 = v0 := (ho.old 0 rfl).trans h0; have ra0 := (f_v0.stp ho.stp).eq a0; exact made_box ra0 (Nat.le_trans hF.size ho.ch.size)) <|
      OblsR.cons (OblR.made _ rfl rfl rfl rfl fun A' R' w' ho hd => by have a0 : R' 1 = v1 := (ho.old 1 rfl).trans h1; have ra0 := (f_v1.stp ho.stp).eq a0; exact made_box ra0 (Nat.le_trans hF.size ho.ch.size)) <|
      OblsR.cons (OblR.plain rfl rfl rfl rfl fun A' R' w' ho hd => by exact of_assign rfl) <|
      OblsR.nil
  intro done ρ σ A R w hdn hI
  obtain ⟨b2_0, e_b2_0⟩ := hI.boxv hdn 0 rfl rfl
  have h2 : R 2 = (.pointer (some ⟨b2_0, 0, none⟩)) := (hI.opvR hdn 0 0 rfl rfl rfl rfl rfl).symm.trans e_b2_0
  obtain ⟨b3_1, e_b3_1⟩ := hI.boxv hdn 1 rfl rfl
  have h3 : R 3 = (.pointer (some ⟨b3_1, 0, none⟩)) := (hI.opvR hdn 1 1 rfl rfl rfl rfl rfl).symm.trans e_b3_1
  replace hAA := hI.low' hAA hA0 (hO.ge (trivial))
  replace hF : Fr w0 w := hF.tr hI.ch (hO.ge (trivial))
  replace hO : IniOK [ob (.pointer (some ⟨b2_0, 0, none⟩)) (.box w0.heap.size 70 E_impl_TokenCount p0), ob (.pointer (some ⟨b3_1, 0, none⟩)) (.box w0.heap.size 70 E_impl_TokenCount p1)] A w := hI.left hdn [(0, ob (.pointer (some ⟨b2_0, 0, none⟩)) (.box w0.heap.size 70 E_impl_TokenCount p0)), (1, ob (.pointer (some ⟨b3_1, 0, none⟩)) (.box w0.heap.size 70 E_impl_TokenCount p1))] ⟨rfl, rfl, e_b2_0, rfl, rfl, ⟨rfl, rfl, e_b3_1, rfl, rfl, trivial⟩⟩
  replace hA := hI.avok
  clear hI
  refine HT.seq ?_
  refine HT.seq ?_
  refine HT.text (l := ⟨_, true, .raw (.pointer (some ⟨b2_0, 0, none⟩))⟩ :: ⟨_, true, .rep eStr A p0.1⟩ :: ⟨_, true, .raw (.pointer (some ⟨b3_1, 0, none⟩))⟩ :: ⟨_, true, .rep eStr A p1.1⟩ :: ⟨_, true, .raw (.bool (!(p0.1 == p1.1)))⟩ :: []) (tl := []) (by kernel_rfl) (by kernel_rfl) (by kernel_rfl) ?_ ?_
  · exact
      Obls.cons (Obl.plain rfl rfl fun R' w' hw hs hd => by have a0 : R' 2 = (.pointer (some ⟨b2_0, 0, none⟩)) := (hs 2 rfl).trans h2; exact of_fieldAddr_raw a0 ff_70_0 Try.sizeOf9 (by decide) rfl) <|
      Obls.cons (Obl.plain rfl rfl fun R' w' hw hs hd => by have a0 : R' 5 = (.pointer (some ⟨b2_0, 0, none⟩)) := hd 0 _ _ _ rfl rfl rfl rfl rfl; exact (of_load_box ((hO.fr hw).ok 0 _ rfl).1 a0 fl_impl_TokenCount_0 rfl Try.isAgg9 Try.sizeOf9)) <|
      Obls.cons (Obl.plain rfl rfl fun R' w' hw hs hd => by have a0 : R' 3 = (.pointer (some ⟨b3_1, 0, none⟩)) := (hs 3 rfl).trans h3; exact of_fieldAddr_raw a0 ff_70_0 Try.sizeOf9 (by decide) rfl) <|
      Obls.cons (Obl.plain rfl rfl fun R' w' hw hs hd => by have a0 : R' 7 = (.pointer (some ⟨b3_1, 0, none⟩)) := hd 0 _ _ _ rfl rfl rfl rfl rfl; exact (of_load_box ((hO.fr hw).ok 1 _ rfl).1 a0 fl_impl_TokenCount_0 rfl Try.isAgg9 Try.sizeOf9)) <|
      Obls.cons (Obl.plain rfl rfl fun R' w' hw hs hd => by have a0 : Rep eStr A w' (R' 6) p0.1 := hd 0 _ _ _ rfl rfl rfl rfl rfl; have a1 : Rep eStr A w' (R' 8) p1.1 := hd 1 _ _ _ rfl rfl rfl rfl rfl; exact of_sneq a0 a1) <|
      Obls.nil
  intro R w hw hs hF'
  replace h2 : R 2 = (.pointer (some ⟨b2_0, 0, none⟩)) := (hs 2 rfl).trans h2
  replace h3 : R 3 = (.pointer (some ⟨b3_1, 0, none⟩)) := (hs 3 rfl).trans h3
  have h9 : R 9 = .bool (!(p0.1 == p1.1)) := hF' 4 _ _ rfl rfl rfl
  replace hO := hO.fr hw
  replace hA := hA.fr hw.size
  replace hF := hF.trans hw
  clear hs hF' hw
  refine seqR_nil ?_
  refine HT.cond (!(p0.1 == p1.1)) h9 (fun c3 => ?_) (fun c3 => ?_)
  · have hr := cnd_t c3 hr
    refine HT.seq ?_
    refine HT.text (l := ⟨_, true, .raw (.bool false)⟩ :: []) (tl := []) (by kernel_rfl) (by kernel_rfl) (by kernel_rfl) ?_ ?_
    · exact
        Obls.cons (Obl.plain rfl rfl fun R' w' hw hs hd => by exact of_assign rfl) <|
        Obls.nil
    intro R w hw hs hF'
    have h4 : R 4 = .bool false := hF' 0 _ _ rfl rfl rfl
    replace hO := hO.fr hw
    replace hO : IniOK [] A w := hO.sub [] trivial
    replace hA := hA.fr hw.size
    replace hF := hF.trans hw
    clear hs hF' hw
    refine seqR_nil ?_
    refine HT.ret ?_
    obtain rfl := Option.some.inj hr
    exact ⟨.inr rfl, [R 4], ⟨rfl, trivial⟩, h4, hF⟩
  · have hr := cnd_f c3 hr
    refine HT.skip ?_
    refine HT.seq ?_
    refine HT.seq ?_
    refine HT.text (l := ⟨_, true, .raw (.pointer (some ⟨b2_0, 1, none⟩))⟩ :: ⟨_, true, .raw (.int .i64 p0.2)⟩ :: ⟨_, true, .raw (.pointer (some ⟨b3_1, 1, none⟩))⟩ :: ⟨_, true, .raw (.int .i64 p1.2)⟩ :: ⟨_, true, .raw (.bool (p0.2 != p1.2))⟩ :: []) (tl := []) (by kernel_rfl) (by kernel_rfl) (by kernel_rfl) ?_ ?_
    · exact
        Obls.cons (Obl.plain rfl rfl fun R' w' hw hs hd => by have a0 : R' 2 = (.pointer (some ⟨b2_0, 0, none⟩)) := (hs 2 rfl).trans h2; exact of_fieldAddr_raw a0 ff_70_1 Try.sizeOf3 (by decide) rfl) <|
        Obls.cons (Obl.plain rfl rfl fun R' w' hw hs hd => by have a0 : R' 10 = (.pointer (some ⟨b2_0, 1, none⟩)) := hd 0 _ _ _ rfl rfl rfl rfl rfl; exact OpF.int (of_load_box ((hO.fr hw).ok 0 _ rfl).1 a0 fl_impl_TokenCount_1 rfl Try.isAgg3 Try.sizeOf3)) <|
        Obls.cons (Obl.plain rfl rfl fun R' w' hw hs hd => by have a0 : R' 3 = (.pointer (some ⟨b3_1, 0, none⟩)) := (hs 3 rfl).trans h3; exact of_fieldAddr_raw a0 ff_70_1 Try.sizeOf3 (by decide) rfl) <|
        Obls.cons (Obl.plain rfl rfl fun R' w' hw hs hd => by have a0 : R' 12 = (.pointer (some ⟨b3_1, 1, none⟩)) := hd 0 _ _ _ rfl rfl rfl rfl rfl; exact OpF.int (of_load_box ((hO.fr hw).ok 1 _ rfl).1 a0 fl_impl_TokenCount_1 rfl Try.isAgg3 Try.sizeOf3)) <|
        Obls.cons (Obl.plain rfl rfl fun R' w' hw hs hd => by have a0 : R' 11 = .int .i64 p0.2 := hd 0 _ _ _ rfl rfl rfl rfl rfl; have a1 : R' 13 = .int .i64 p1.2 := hd 1 _ _ _ rfl rfl rfl rfl rfl; exact of_neq a0 a1) <|
        Obls.nil
    intro R w hw hs hF'
    have h14 : R 14 = .bool (p0.2 != p1.2) := hF' 4 _ _ rfl rfl rfl
    replace hO := hO.fr hw
    replace hO : IniOK [] A w := hO.sub [] trivial
    replace hA := hA.fr hw.size
    replace hF := hF.trans hw
    clear hs hF' hw
    refine seqR_nil ?_
    refine HT.cond (p0.2 != p1.2) h14 (fun c4 => ?_) (fun c4 => ?_)
    · have hr := cnd_t c4 hr
      refine HT.seq ?_
      refine HT.text (l := ⟨_, true, .raw (.bool false)⟩ :: []) (tl := []) (by kernel_rfl) (by kernel_rfl) (by kernel_rfl) ?_ ?_
      · exact
          Obls.cons (Obl.plain rfl rfl fun R' w' hw hs hd => by exact of_assign rfl) <|
          Obls.nil
      intro R w hw hs hF'
      have h4 : R 4 = .bool false := hF' 0 _ _ rfl rfl rfl
      replace hO := hO.fr hw
      replace hA := hA.fr hw.size
      replace hF := hF.trans hw
      clear hs hF' hw
      refine seqR_nil ?_
      refine HT.ret ?_
      obtain rfl := Option.some.inj hr
      exact ⟨.inr rfl, [R 4], ⟨rfl, trivial⟩, h4, hF⟩
    · have hr := cnd_f c4 hr
      refine HT.skip ?_
      refine HT.seq ?_
      refine HT.text (l := ⟨_, true, .raw (.bool true)⟩ :: []) (tl := []) (by kernel_rfl) (by kernel_rfl) (by kernel_rfl) ?_ ?_
      · exact
          Obls.cons (Obl.plain rfl rfl fun R' w' hw hs hd => by exact of_assign rfl) <|
          Obls.nil
      intro R w hw hs hF'
      have h4 : R 4 = .bool true := hF' 0 _ _ rfl rfl rfl
      replace hO := hO.fr hw
      replace hA := hA.fr hw.size
      replace hF := hF.trans hw
      clear hs hF' hw
      refine seqR_nil ?_
      refine HT.ret ?_
      obtain rfl := Option.some.inj hr
      exact ⟨.inr rfl, [R 4], ⟨rfl, trivial⟩, h4, hF⟩
def M_laws_eqTokenCountS_L0 (fu : Nat) (p0 : List T_impl_TokenCount) (p1 : List T_impl_TokenCount) : Nat → Int → Option (Ex Bool Unit)
  | 0, _ => none
  | k + 1, y5 =>
    bif (decide (y5 < (p0.length : Int))) then (
      ck (inR y5 p0.length) <|
      ck (inR y5 p1.length) <|
      cl true (M_laws_eqTokenCount fu (gtD p0 y5) (gtD p1 y5)) fun x9 =>
      bif (!x9) then (
        some (Ex.ret false)
      ) else (
        ck (i64B (y5 + (1 : Int))) <|
        M_laws_eqTokenCountS_L0 fu p0 p1 k (y5 + (1 : Int))
      )
    ) else (
      some (Ex.go ())
    )
def M_laws_eqTokenCountS (fu : Nat) (p0 : List T_impl_TokenCount) (p1 : List T_impl_TokenCount) : Option Bool :=
  bif ((p0.length : Int) != (p1.length : Int)) then (
    some false
  ) else (
    cl true (M_laws_eqTokenCountS_L0 fu p0 p1 fu (0 : Int)) fun rl2 =>
    exM rl2 (fun r => some r) fun s4 =>
    some true
  )
set_option maxRecDepth 100000 in
set_option maxHeartbeats 4000000 in
theorem M_laws_eqTokenCountS_ok {fu : Nat} {A : Av} {p0 : List T_impl_TokenCount} {p1 : List T_impl_TokenCount} {r : Bool} (hr : M_laws_eqTokenCountS fu p0 p1 = some r) {w : World} {v0 : Value} {v1 : Value} (hA : AvOK A w) (h0 : Rep (eSl E_impl_TokenCount) A w v0 p0) (h1 : Rep (eSl E_impl_TokenCount) A w v1 p1) :
    Calls Try.prog 30 #[v0, v1] w fun e w' => ∃ v, e = .returned v ∧ (v = .bool r ∧ Fr w w') := by
  unfold M_laws_eqTokenCountS at hr
  obtain ⟨w0, hw0⟩ : ∃ w0, w0 = w := ⟨_, rfl⟩
  have hF : Fr w0 w := hw0 ▸ Fr.refl _
  rw [show Fr w = Fr w0 from hw0 ▸ rfl]
  clear hw0
  refine calls_of_HT2 [.tmp 4] Try.func30 Try.ntmps30 (by decide) rfl rfl (Nat.le_of_ble_eq_true rfl) ?_
  intro R hR
  have f_v0 := h0
  replace h0 : R 0 = v0 := hR 0 _ rfl
  have f_v1 := h1
  replace h1 : R 1 = v1 := hR 1 _ rfl
  clear hR
  refine HT.seq ?_
  refine HT.text (l := ⟨_, true, .raw (.bool false)⟩ :: []) (tl := []) (by kernel_rfl) (by kernel_rfl) (by kernel_rfl) ?_ ?_
  · exact
      Obls.cons (Obl.plain rfl rfl fun R' w' hw hs hd => by exact of_assign rfl) <|
      Obls.nil
  intro R w hw hs hF'
  replace h0 : R 0 = v0 := (hs 0 rfl).trans h0
  replace h1 : R 1 = v1 := (hs 1 rfl).trans h1
  replace f_v0 := f_v0.fr hw
  replace f_v1 := f_v1.fr hw
  replace hA := hA.fr hw.size
  replace hF := hF.trans hw
  clear hs hF' hw
  refine seqR_nil ?_
  refine HT.seq ?_
  refine HT.seq ?_
  refine HT.text (l := ⟨_, true, .raw v0⟩ :: ⟨_, true, .raw (.int .i64 (p0.length : Int))⟩ :: ⟨_, true, .raw v1⟩ :: ⟨_, true, .raw (.int .i64 (p1.length : Int))⟩ :: ⟨_, true, .raw (.bool ((p0.length : Int) != (p1.length : Int)))⟩ :: []) (tl := []) (by kernel_rfl) (by kernel_rfl) (by kernel_rfl) ?_ ?_
  · exact
      Obls.cons (Obl.plain rfl rfl fun R' w' hw hs hd => by have a0 : R' 0 = v0 := (hs 0 rfl).trans h0; exact of_move a0) <|
      Obls.cons (Obl.plain rfl rfl fun R' w' hw hs hd => by have a0 : R' 6 = v0 := hd 0 _ _ _ rfl rfl rfl rfl rfl; have ra0 := (f_v0.fr hw).eq a0; exact of_len_sl (aT := #[]) ra0 Try.underlying27) <|
      Obls.cons (Obl.plain rfl rfl fun R' w' hw hs hd => by have a0 : R' 1 = v1 := (hs 1 rfl).trans h1; exact of_move a0) <|
      Obls.cons (Obl.plain rfl rfl fun R' w' hw hs hd => by have a0 : R' 8 = v1 := hd 0 _ _ _ rfl rfl rfl rfl rfl; have ra0 := (f_v1.fr hw).eq a0; exact of_len_sl (aT := #[]) ra0 Try.underlying27) <|
      Obls.cons (Obl.plain rfl rfl fun R' w' hw hs hd => by have a0 : R' 7 = .int .i64 (p0.length : Int) := hd 0 _ _ _ rfl rfl rfl rfl rfl; have a1 : R' 9 = .int .i64 (p1.length : Int) := hd 1 _ _ _ rfl rfl rfl rfl rfl; exact of_neq a0 a1) <|
      Obls.nil
  intro R w hw hs hF'
  replace h0 : R 0 = v0 := (hs 0 rfl).trans h0
  replace h1 : R 1 = v1 := (hs 1 rfl).trans h1
  have h10 : R 10 = .bool ((p0.length : Int) != (p1.length : Int)) := hF' 4 _ _ rfl rfl rfl
  replace f_v0 := f_v0.fr hw
  replace f_v1 := f_v1.fr hw
  replace hA := hA.fr hw.size
  replace hF := hF.trans hw
  clear hs hF' hw
  refine seqR_nil ?_
  refine HT.cond ((p0.length : Int) != (p1.length : Int)) h10 (fun c1 => ?_) (fun c1 => ?_)
  · have hr := cnd_t c1 hr
    refine HT.seq ?_
    refine HT.text (l := ⟨_, true, .raw (.bool false)⟩ :: []) (tl := []) (by kernel_rfl) (by kernel_rfl) (by kernel_rfl) ?_ ?_
    · exact
        Obls.cons (Obl.plain rfl rfl fun R' w' hw hs hd => by exact of_assign rfl) <|
        Obls.nil
    intro R w hw hs hF'
    have h4 : R 4 = .bool false := hF' 0 _ _ rfl rfl rfl
    replace hA := hA.fr hw.size
    replace hF := hF.trans hw
    clear hs hF' hw
    refine seqR_nil ?_
    refine HT.ret ?_
    obtain rfl := Option.some.inj hr
    exact ⟨.inr rfl, [R 4], ⟨rfl, trivial⟩, h4, hF⟩
  · have hr := cnd_f c1 hr
    refine HT.skip ?_
    refine HT.seq ?_
    refine HT.seq ?_
    refine HT.text (l := ⟨_, true, .raw (.int .i64 (0 : Int))⟩ :: []) (tl := []) (by kernel_rfl) (by kernel_rfl) (by kernel_rfl) ?_ ?_
    · exact
        Obls.cons (Obl.plain rfl rfl fun R' w' hw hs hd => by exact of_assign rfl) <|
        Obls.nil
    intro R w hw hs hF'
    replace h0 : R 0 = v0 := (hs 0 rfl).trans h0
    replace h1 : R 1 = v1 := (hs 1 rfl).trans h1
    have h5 : R 5 = .int .i64 (0 : Int) := hF' 0 _ _ rfl rfl rfl
    replace f_v0 := f_v0.fr hw
    replace f_v1 := f_v1.fr hw
    replace hA := hA.fr hw.size
    replace hF := hF.trans hw
    clear hs hF' hw
    refine seqR_nil ?_
    obtain ⟨rl2, q3, hr⟩ := cl_some hr
    replace q3 := q3 rfl
    refine HT.cut0 (fun R w => ∃ (s4 : Unit), rl2 = Ex.go s4 ∧ AvOK A w ∧ Fr w0 w) ?_ ?_
    · refine HT.block ?_
      refine HT.loop (fun k R w => ∃ (y5 : Int), M_laws_eqTokenCountS_L0 fu p0 p1 k y5 = some rl2 ∧ AvOK A w ∧ Fr w0 w ∧ R 0 = v0 ∧ R 1 = v1 ∧ R 5 = .int .i64 y5 ∧ Rep (eSl E_impl_TokenCount) A w v0 p0 ∧ Rep (eSl E_impl_TokenCount) A w v1 p1) fu ⟨_, q3, hA, hF, h0, h1, h5, f_v0, f_v1⟩ ?_
      have hr0 := hr; clear hr q3
      rintro k R w ⟨y5, hr, hA, hF, h0, h1, h5, f_v0, f_v1⟩
      rcases k with _ | k
      · cases (show none = some _ from hr)
      rw [M_laws_eqTokenCountS_L0] at hr
      refine HT.seq ?_
      refine HT.seq ?_
      refine HT.text (l := ⟨_, true, .raw (.int .i64 y5)⟩ :: ⟨_, true, .raw v0⟩ :: ⟨_, true, .raw (.int .i64 (p0.length : Int))⟩ :: ⟨_, true, .raw (.bool (decide (y5 < (p0.length : Int))))⟩ :: []) (tl := []) (by kernel_rfl) (by kernel_rfl) (by kernel_rfl) ?_ ?_
      · exact
          Obls.cons (Obl.plain rfl rfl fun R' w' hw hs hd => by have a0 : R' 5 = .int .i64 y5 := (hs 5 rfl).trans h5; exact of_move a0) <|
          Obls.cons (Obl.plain rfl rfl fun R' w' hw hs hd => by have a0 : R' 0 = v0 := (hs 0 rfl).trans h0; exact of_move a0) <|
          Obls.cons (Obl.plain rfl rfl fun R' w' hw hs hd => by have a0 : R' 12 = v0 := hd 0 _ _ _ rfl rfl rfl rfl rfl; have ra0 := (f_v0.fr hw).eq a0; exact of_len_sl (aT := #[]) ra0 Try.underlying27) <|
          Obls.cons (Obl.plain rfl rfl fun R' w' hw hs hd => by have a0 : R' 11 = .int .i64 y5 := hd 0 _ _ _ rfl rfl rfl rfl rfl; have a1 : R' 13 = .int .i64 (p0.length : Int) := hd 1 _ _ _ rfl rfl rfl rfl rfl; exact of_lss a0 a1) <|
          Obls.nil
      intro R w hw hs hF'
      replace h0 : R 0 = v0 := (hs 0 rfl).trans h0
      replace h1 : R 1 = v1 := (hs 1 rfl).trans h1
      replace h5 : R 5 = .int .i64 y5 := (hs 5 rfl).trans h5
      have h14 : R 14 = .bool (decide (y5 < (p0.length : Int))) := hF' 3 _ _ rfl rfl rfl
      replace f_v0 := f_v0.fr hw
      replace f_v1 := f_v1.fr hw
      replace hA := hA.fr hw.size
      replace hF := hF.trans hw
      clear hs hF' hw
      refine seqR_nil ?_
      refine HT.cond (decide (y5 < (p0.length : Int))) h14 (fun c6 => ?_) (fun c6 => ?_)
      · have hr := cnd_t c6 hr
        refine HT.skip ?_
        refine HT.seq ?_
        refine HT.block ?_
        refine HT.seq ?_
        obtain ⟨e7, hr⟩ := ck_some hr
        obtain ⟨e8, hr⟩ := ck_some hr
        obtain ⟨x9, q10, hr⟩ := cl_some hr
        refine HT.draw (by kernel_rfl) (l := ⟨_, true, .raw v0⟩ :: ⟨_, true, .raw (.int .i64 y5)⟩ :: ⟨_, true, .qtr E_impl_TokenCount A (gtD p0 y5)⟩ :: ⟨_, true, .rep E_impl_TokenCount A (gtD p0 y5)⟩ :: ⟨_, true, .raw v1⟩ :: ⟨_, true, .raw (.int .i64 y5)⟩ :: ⟨_, true, .qtr E_impl_TokenCount A (gtD p1 y5)⟩ :: ⟨_, true, .rep E_impl_TokenCount A (gtD p1 y5)⟩ :: ⟨_, true, .raw (.bool x9)⟩ :: ⟨_, true, .raw (.bool (!x9))⟩ :: []) (tl := []) (by kernel_rfl) (by kernel_rfl) (by kernel_rfl) (by kernel_rfl) ?_ ?_
        · exact
            Obls.cons (Obl.plain rfl rfl fun R' w' hw hs hd => by have a0 : R' 0 = v0 := (hs 0 rfl).trans h0; exact of_move a0) <|
            Obls.cons (Obl.plain rfl rfl fun R' w' hw hs hd => by have a0 : R' 5 = .int .i64 y5 := (hs 5 rfl).trans h5; exact of_move a0) <|
            Obls.cons (Obl.plain rfl rfl fun R' w' hw hs hd => by have a0 : R' 17 = v0 := hd 0 _ _ _ rfl rfl rfl rfl rfl; have a1 : R' 18 = .int .i64 y5 := hd 1 _ _ _ rfl rfl rfl rfl rfl; have ra0 := (f_v0.fr hw).eq a0; exact of_indexAddr ra0 a1 Try.underlying27 Try.sizeOf70 e7) <|
            Obls.cons (Obl.plain rfl rfl fun R' w' hw hs hd => by have a0 : QRep E_impl_TokenCount A w' (R' 19) (gtD p0 y5) := hd 0 _ _ _ rfl rfl rfl rfl rfl; exact (of_load a0.ptr Try.isAgg70 Try.sizeOf70)) <|
            Obls.cons (Obl.plain rfl rfl fun R' w' hw hs hd => by have a0 : R' 1 = v1 := (hs 1 rfl).trans h1; exact of_move a0) <|
            Obls.cons (Obl.plain rfl rfl fun R' w' hw hs hd => by have a0 : R' 5 = .int .i64 y5 := (hs 5 rfl).trans h5; exact of_move a0) <|
            Obls.cons (Obl.plain rfl rfl fun R' w' hw hs hd => by have a0 : R' 21 = v1 := hd 0 _ _ _ rfl rfl rfl rfl rfl; have a1 : R' 22 = .int .i64 y5 := hd 1 _ _ _ rfl rfl rfl rfl rfl; have ra0 := (f_v1.fr hw).eq a0; exact of_indexAddr ra0 a1 Try.underlying27 Try.sizeOf70 e8) <|
            Obls.cons (Obl.plain rfl rfl fun R' w' hw hs hd => by have a0 : QRep E_impl_TokenCount A w' (R' 23) (gtD p1 y5) := hd 0 _ _ _ rfl rfl rfl rfl rfl; exact (of_load a0.ptr Try.isAgg70 Try.sizeOf70)) <|
            Obls.cons (Obl.plain rfl rfl fun R' w' hw hs hd => by have a0 : Rep E_impl_TokenCount A w' (R' 20) (gtD p0 y5) := hd 0 _ _ _ rfl rfl rfl rfl rfl; have a1 : Rep E_impl_TokenCount A w' (R' 24) (gtD p1 y5) := hd 1 _ _ _ rfl rfl rfl rfl rfl; exact of_call Try.call54 (M_laws_eqTokenCount_ok (q10 rfl) (hA.fr hw.size) a0 a1)) <|
            Obls.cons (Obl.plain rfl rfl fun R' w' hw hs hd => by have a0 : R' 25 = .bool x9 := hd 0 _ _ _ rfl rfl rfl rfl rfl; exact of_not a0) <|
            Obls.nil
        intro R w hw hs hF'
        replace h0 : R 0 = v0 := (hs 0 rfl).trans h0
        replace h1 : R 1 = v1 := (hs 1 rfl).trans h1
        replace h5 : R 5 = .int .i64 y5 := (hs 5 rfl).trans h5
        have h26 : R 26 = .bool (!x9) := hF' 9 _ _ rfl rfl rfl
        replace f_v0 := f_v0.fr hw
        replace f_v1 := f_v1.fr hw
        replace hA := hA.fr hw.size
        replace hF := hF.trans hw
        clear hs hF' hw
        refine seqR_nil ?_
        refine HT.cond (!x9) h26 (fun c11 => ?_) (fun c11 => ?_)
        · have hr := cnd_t c11 hr
          refine HT.seq ?_
          refine HT.text (l := ⟨_, true, .raw (.bool false)⟩ :: []) (tl := []) (by kernel_rfl) (by kernel_rfl) (by kernel_rfl) ?_ ?_
          · exact
              Obls.cons (Obl.plain rfl rfl fun R' w' hw hs hd => by exact of_assign rfl) <|
              Obls.nil
          intro R w hw hs hF'
          have h4 : R 4 = .bool false := hF' 0 _ _ rfl rfl rfl
          replace hA := hA.fr hw.size
          replace hF := hF.trans hw
          clear hs hF' hw
          refine seqR_nil ?_
          refine HT.ret ?_
          obtain rfl := Option.some.inj hr
          have hr := hr0
          replace hr : some _ = some _ := hr
          obtain rfl := Option.some.inj hr
          exact ⟨.inr rfl, [R 4], ⟨rfl, trivial⟩, h4, hF⟩
        · have hr := cnd_f c11 hr
          refine HT.skip ?_
          obtain ⟨e12, hr⟩ := ck_some hr
          refine HT.text (l := ⟨_, true, .raw (.int .i64 y5)⟩ :: ⟨_, true, .raw (.int .i64 (y5 + (1 : Int)))⟩ :: ⟨_, true, .raw (.int .i64 (y5 + (1 : Int)))⟩ :: []) (tl := []) (by kernel_rfl) (by kernel_rfl) (by kernel_rfl) ?_ ?_
          · exact
              Obls.cons (Obl.plain rfl rfl fun R' w' hw hs hd => by have a0 : R' 5 = .int .i64 y5 := (hs 5 rfl).trans h5; exact of_move a0) <|
              Obls.cons (Obl.plain rfl rfl fun R' w' hw hs hd => by have a0 : R' 15 = .int .i64 y5 := hd 0 _ _ _ rfl rfl rfl rfl rfl; exact of_add a0 rfl e12) <|
              Obls.cons (Obl.plain rfl rfl fun R' w' hw hs hd => by have a0 : R' 16 = .int .i64 (y5 + (1 : Int)) := hd 0 _ _ _ rfl rfl rfl rfl rfl; exact of_assign a0) <|
              Obls.nil
          intro R w hw hs hF'
          replace h0 : R 0 = v0 := (hs 0 rfl).trans h0
          replace h1 : R 1 = v1 := (hs 1 rfl).trans h1
          have h5 : R 5 = .int .i64 (y5 + (1 : Int)) := hF' 2 _ _ rfl rfl rfl
          replace f_v0 := f_v0.fr hw
          replace f_v1 := f_v1.fr hw
          replace hA := hA.fr hw.size
          replace hF := hF.trans hw
          clear hs hF' hw
          refine seqR_nil ?_
          exact Exists.intro k (And.intro (Nat.lt_succ_self k) ⟨_, hr, hA, hF, h0, h1, h5, f_v0, f_v1⟩)
      · have hr := cnd_f c6 hr
        refine HT.exit ?_
        obtain rfl := Option.some.inj hr
        exact Exists.intro _ ⟨rfl, hA, hF⟩
    rintro R w ⟨s4, rfl, hA, hF⟩
    have hr := exM_go hr
    refine HT.seq ?_
    refine HT.text (l := ⟨_, true, .raw (.bool true)⟩ :: []) (tl := []) (by kernel_rfl) (by kernel_rfl) (by kernel_rfl) ?_ ?_
    · exact
        Obls.cons (Obl.plain rfl rfl fun R' w' hw hs hd => by exact of_assign rfl) <|
        Obls.nil
    intro R w hw hs hF'
    have h4 : R 4 = .bool true := hF' 0 _ _ rfl rfl rfl
    replace hA := hA.fr hw.size
    replace hF := hF.trans hw
    clear hs hF' hw
    refine seqR_nil ?_
    refine HT.ret ?_
    obtain rfl := Option.some.inj hr
    exact ⟨.inr rfl, [R 4], ⟨rfl, trivial⟩, h4, hF⟩
def M_laws_eqStringS_L0 (fu : Nat) (p0 : List (List UInt8)) (p1 : List (List UInt8)) : Nat → Int → Option (Ex Bool Unit)
  | 0, _ => none
  | k + 1, y5 =>
    bif (decide (y5 < (p0.length : Int))) then (
      ck (inR y5 p0.length) <|
      ck (inR y5 p1.length) <|
      bif (!((gtD p0 y5) == (gtD p1 y5))) then (
        some (Ex.ret false)
      ) else (
        ck (i64B (y5 + (1 : Int))) <|
        M_laws_eqStringS_L0 fu p0 p1 k (y5 + (1 : Int))
      )
    ) else (
      some (Ex.go ())
    )
def M_laws_eqStringS (fu : Nat) (p0 : List (List UInt8)) (p1 : List (List UInt8)) : Option Bool :=
  bif ((p0.length : Int) != (p1.length : Int)) then (
    some false
  ) else (
    cl true (M_laws_eqStringS_L0 fu p0 p1 fu (0 : Int)) fun rl2 =>
    exM rl2 (fun r => some r) fun s4 =>
    some true
  )
set_option maxRecDepth 100000 in
set_option maxHeartbeats 4000000 in
theorem M_laws_eqStringS_ok {fu : Nat} {A : Av} {p0 : List (List UInt8)} {p1 : List (List UInt8)} {r : Bool} (hr : M_laws_eqStringS fu p0 p1 = some r) {w : World} {v0 : Value} {v1 : Value} (hA : AvOK A w) (h0 : Rep (eSl eStr) A w v0 p0) (h1 : Rep (eSl eStr) A w v1 p1) :
    Calls Try.prog 16 #[v0, v1] w fun e w' => ∃ v, e = .returned v ∧ (v = .bool r ∧ Fr w w') := by
  unfold M_laws_eqStringS at hr
  obtain ⟨w0, hw0⟩ : ∃ w0, w0 = w := ⟨_, rfl⟩
  have hF : Fr w0 w := hw0 ▸ Fr.refl _
  rw [show Fr w = Fr w0 from hw0 ▸ rfl]
  clear hw0
  refine calls_of_HT2 [.tmp 4] Try.func16 Try.ntmps16 (by decide) rfl rfl (Nat.le_of_ble_eq_true rfl) ?_
  intro R hR
  have f_v0 := h0
  replace h0 : R 0 = v0 := hR 0 _ rfl
  have f_v1 := h1
  replace h1 : R 1 = v1 := hR 1 _ rfl
  clear hR
  refine HT.seq ?_
  refine HT.text (l := ⟨_, true, .raw (.bool false)⟩ :: []) (tl := []) (by kernel_rfl) (by kernel_rfl) (by kernel_rfl) ?_ ?_
  · exact
      Obls.cons (Obl.plain rfl rfl fun R' w' hw hs hd => by exact of_assign rfl) <|
      Obls.nil
  intro R w hw hs hF'
  replace h0 : R 0 = v0 := (hs 0 rfl).trans h0
  replace h1 : R 1 = v1 := (hs 1 rfl).trans h1
  replace f_v0 := f_v0.fr hw
  replace f_v1 := f_v1.fr hw
  replace hA := hA.fr hw.size
  replace hF := hF.trans hw
  clear hs hF' hw
  refine seqR_nil ?_
  refine HT.seq ?_
  refine HT.seq ?_
  refine HT.text (l := ⟨_, true, .raw v0⟩ :: ⟨_, true, .raw (.int .i64 (p0.length : Int))⟩ :: ⟨_, true, .raw v1⟩ :: ⟨_, true, .raw (.int .i64 (p1.length : Int))⟩ :: ⟨_, true, .raw (.bool ((p0.length : Int) != (p1.length : Int)))⟩ :: []) (tl := []) (by kernel_rfl) (by kernel_rfl) (by kernel_rfl) ?_ ?_
  · exact
      Obls.cons (Obl.plain rfl rfl fun R' w' hw hs hd => by have a0 : R' 0 = v0 := (hs 0 rfl).trans h0; exact of_move a0) <|
      Obls.cons (Obl.plain rfl rfl fun R' w' hw hs hd => by have a0 : R' 6 = v0 := hd 0 _ _ _ rfl rfl rfl rfl rfl; have ra0 := (f_v0.fr hw).eq a0; exact of_len_sl (aT := #[]) ra0 Try.underlying37) <|
      Obls.cons (Obl.plain rfl rfl fun R' w' hw hs hd => by have a0 : R' 1 = v1 := (hs 1 rfl).trans h1; exact of_move a0) <|
      Obls.cons (Obl.plain rfl rfl fun R' w' hw hs hd => by have a0 : R' 8 = v1 := hd 0 _ _ _ rfl rfl rfl rfl rfl; have ra0 := (f_v1.fr hw).eq a0; exact of_len_sl (aT := #[]) ra0 Try.underlying37) <|
      Obls.cons (Obl.plain rfl rfl fun R' w' hw hs hd => by have a0 : R' 7 = .int .i64 (p0.length : Int) := hd 0 _ _ _ rfl rfl rfl rfl rfl; have a1 : R' 9 = .int .i64 (p1.length : Int) := hd 1 _ _ _ rfl rfl rfl rfl rfl; exact of_neq a0 a1) <|
      Obls.nil
  intro R w hw hs hF'
  replace h0 : R 0 = v0 := (hs 0 rfl).trans h0
  replace h1 : R 1 = v1 := (hs 1 rfl).trans h1
  have h10 : R 10 = .bool ((p0.length : Int) != (p1.length : Int)) := hF' 4 _ _ rfl rfl rfl
  replace f_v0 := f_v0.fr hw
  replace f_v1 := f_v1.fr hw
  replace hA := hA.fr hw.size
  replace hF := hF.trans hw
  clear hs hF' hw
  refine seqR_nil ?_
  refine HT.cond ((p0.length : Int) != (p1.length : Int)) h10 (fun c1 => ?_) (fun c1 => ?_)
  · have hr := cnd_t c1 hr
    refine HT.seq ?_
    refine HT.text (l := ⟨_, true, .raw (.bool false)⟩ :: []) (tl := []) (by kernel_rfl) (by kernel_rfl) (by kernel_rfl) ?_ ?_
    · exact
        Obls.cons (Obl.plain rfl rfl fun R' w' hw hs hd => by exact of_assign rfl) <|
        Obls.nil
    intro R w hw hs hF'
    have h4 : R 4 = .bool false := hF' 0 _ _ rfl rfl rfl
    replace hA := hA.fr hw.size
    replace hF := hF.trans hw
    clear hs hF' hw
    refine seqR_nil ?_
    refine HT.ret ?_
    obtain rfl := Option.some.inj hr
    exact ⟨.inr rfl, [R 4], ⟨rfl, trivial⟩, h4, hF⟩
  · have hr := cnd_f c1 hr
    refine HT.skip ?_
    refine HT.seq ?_
    refine HT.seq ?_
    refine HT.text (l := ⟨_, true, .raw (.int .i64 (0 : Int))⟩ :: []) (tl := []) (by kernel_rfl) (by kernel_rfl) (by kernel_rfl) ?_ ?_
    · exact
        Obls.cons (Obl.plain rfl rfl fun R' w' hw hs hd => by exact of_assign rfl) <|
        Obls.nil
    intro R w hw hs hF'
    replace h0 : R 0 = v0 := (hs 0 rfl).trans h0
    replace h1 : R 1 = v1 := (hs 1 rfl).trans h1
    have h5 : R 5 = .int .i64 (0 : Int) := hF' 0 _ _ rfl rfl rfl
    replace f_v0 := f_v0.fr hw
    replace f_v1 := f_v1.fr hw
    replace hA := hA.fr hw.size
    replace hF := hF.trans hw
    clear hs hF' hw
    refine seqR_nil ?_
    obtain ⟨rl2, q3, hr⟩ := cl_some hr
    replace q3 := q3 rfl
    refine HT.cut0 (fun R w => ∃ (s4 : Unit), rl2 = Ex.go s4 ∧ AvOK A w ∧ Fr w0 w) ?_ ?_
    · refine HT.block ?_
      refine HT.loop (fun k R w => ∃ (y5 : Int), M_laws_eqStringS_L0 fu p0 p1 k y5 = some rl2 ∧ AvOK A w ∧ Fr w0 w ∧ R 0 = v0 ∧ R 1 = v1 ∧ R 5 = .int .i64 y5 ∧ Rep (eSl eStr) A w v0 p0 ∧ Rep (eSl eStr) A w v1 p1) fu ⟨_, q3, hA, hF, h0, h1, h5, f_v0, f_v1⟩ ?_
      have hr0 := hr; clear hr q3
      rintro k R w ⟨y5, hr, hA, hF, h0, h1, h5, f_v0, f_v1⟩
      rcases k with _ | k
      · cases (show none = some _ from hr)
      rw [M_laws_eqStringS_L0] at hr
      refine HT.seq ?_
      refine HT.seq ?_
      refine HT.text (l := ⟨_, true, .raw (.int .i64 y5)⟩ :: ⟨_, true, .raw v0⟩ :: ⟨_, true, .raw (.int .i64 (p0.length : Int))⟩ :: ⟨_, true, .raw (.bool (decide (y5 < (p0.length : Int))))⟩ :: []) (tl := []) (by kernel_rfl) (by kernel_rfl) (by kernel_rfl) ?_ ?_
      · exact
          Obls.cons (Obl.plain rfl rfl fun R' w' hw hs hd => by have a0 : R' 5 = .int .i64 y5 := (hs 5 rfl).trans h5; exact of_move a0) <|
          Obls.cons (Obl.plain rfl rfl fun R' w' hw hs hd => by have a0 : R' 0 = v0 := (hs 0 rfl).trans h0; exact of_move a0) <|
          Obls.cons (Obl.plain rfl rfl fun R' w' hw hs hd => by have a0 : R' 12 = v0 := hd 0 _ _ _ rfl rfl rfl rfl rfl; have ra0 := (f_v0.fr hw).eq a0; exact of_len_sl (aT := #[]) ra0 Try.underlying37) <|
          Obls.cons (Obl.plain rfl rfl fun R' w' hw hs hd => by have a0 : R' 11 = .int .i64 y5 := hd 0 _ _ _ rfl rfl rfl rfl rfl; have a1 : R' 13 = .int .i64 (p0.length : Int) := hd 1 _ _ _ rfl rfl rfl rfl rfl; exact of_lss a0 a1) <|
          Obls.nil
      intro R w hw hs hF'
      replace h0 : R 0 = v0 := (hs 0 rfl).trans h0
      replace h1 : R 1 = v1 := (hs 1 rfl).trans h1
      replace h5 : R 5 = .int .i64 y5 := (hs 5 rfl).trans h5
      have h14 : R 14 = .bool (decide (y5 < (p0.length : Int))) := hF' 3 _ _ rfl rfl rfl
      replace f_v0 := f_v0.fr hw
      replace f_v1 := f_v1.fr hw
      replace hA := hA.fr hw.size
      replace hF := hF.trans hw
      clear hs hF' hw
      refine seqR_nil ?_
      refine HT.cond (decide (y5 < (p0.length : Int))) h14 (fun c6 => ?_) (fun c6 => ?_)
      · have hr := cnd_t c6 hr
        refine HT.skip ?_
        refine HT.seq ?_
        refine HT.block ?_
        refine HT.seq ?_
        obtain ⟨e7, hr⟩ := ck_some hr
        obtain ⟨e8, hr⟩ := ck_some hr
        refine HT.draw (by kernel_rfl) (l := ⟨_, true, .raw v0⟩ :: ⟨_, true, .raw (.int .i64 y5)⟩ :: ⟨_, true, .qtr eStr A (gtD p0 y5)⟩ :: ⟨_, true, .rep eStr A (gtD p0 y5)⟩ :: ⟨_, true, .raw v1⟩ :: ⟨_, true, .raw (.int .i64 y5)⟩ :: ⟨_, true, .qtr eStr A (gtD p1 y5)⟩ :: ⟨_, true, .rep eStr A (gtD p1 y5)⟩ :: ⟨_, true, .raw (.bool (!((gtD p0 y5) == (gtD p1 y5))))⟩ :: []) (tl := []) (by kernel_rfl) (by kernel_rfl) (by kernel_rfl) (by kernel_rfl) ?_ ?_
        · exact
            Obls.cons (Obl.plain rfl rfl fun R' w' hw hs hd => by have a0 : R' 0 = v0 := (hs 0 rfl).trans h0; exact of_move a0) <|
            Obls.cons (Obl.plain rfl rfl fun R' w' hw hs hd => by have a0 : R' 5 = .int .i64 y5 := (hs 5 rfl).trans h5; exact of_move a0) <|
            Obls.cons (Obl.plain rfl rfl fun R' w' hw hs hd => by have a0 : R' 17 = v0 := hd 0 _ _ _ rfl rfl rfl rfl rfl; have a1 : R' 18 = .int .i64 y5 := hd 1 _ _ _ rfl rfl rfl rfl rfl; have ra0 := (f_v0.fr hw).eq a0; exact of_indexAddr ra0 a1 Try.underlying37 Try.sizeOf9 e7) <|
            Obls.cons (Obl.plain rfl rfl fun R' w' hw hs hd => by have a0 : QRep eStr A w' (R' 19) (gtD p0 y5) := hd 0 _ _ _ rfl rfl rfl rfl rfl; exact (of_load a0.ptr Try.isAgg9 Try.sizeOf9)) <|
            Obls.cons (Obl.plain rfl rfl fun R' w' hw hs hd => by have a0 : R' 1 = v1 := (hs 1 rfl).trans h1; exact of_move a0) <|
            Obls.cons (Obl.plain rfl rfl fun R' w' hw hs hd => by have a0 : R' 5 = .int .i64 y5 := (hs 5 rfl).trans h5; exact of_move a0) <|
            Obls.cons (Obl.plain rfl rfl fun R' w' hw hs hd => by have a0 : R' 21 = v1 := hd 0 _ _ _ rfl rfl rfl rfl rfl; have a1 : R' 22 = .int .i64 y5 := hd 1 _ _ _ rfl rfl rfl rfl rfl; have ra0 := (f_v1.fr hw).eq a0; exact of_indexAddr ra0 a1 Try.underlying37 Try.sizeOf9 e8) <|
            Obls.cons (Obl.plain rfl rfl fun R' w' hw hs hd => by have a0 : QRep eStr A w' (R' 23) (gtD p1 y5) := hd 0 _ _ _ rfl rfl rfl rfl rfl; exact (of_load a0.ptr Try.isAgg9 Try.sizeOf9)) <|
            Obls.cons (Obl.plain rfl rfl fun R' w' hw hs hd => by have a0 : Rep eStr A w' (R' 20) (gtD p0 y5) := hd 0 _ _ _ rfl rfl rfl rfl rfl; have a1 : Rep eStr A w' (R' 24) (gtD p1 y5) := hd 1 _ _ _ rfl rfl rfl rfl rfl; exact of_sneq a0 a1) <|
            Obls.nil
        intro R w hw hs hF'
        replace h0 : R 0 = v0 := (hs 0 rfl).trans h0
        replace h1 : R 1 = v1 := (hs 1 rfl).trans h1
        replace h5 : R 5 = .int .i64 y5 := (hs 5 rfl).trans h5
        have h25 : R 25 = .bool (!((gtD p0 y5) == (gtD p1 y5))) := hF' 8 _ _ rfl rfl rfl
        replace f_v0 := f_v0.fr hw
        replace f_v1 := f_v1.fr hw
        replace hA := hA.fr hw.size
        replace hF := hF.trans hw
        clear hs hF' hw
        refine seqR_nil ?_
        refine HT.cond (!((gtD p0 y5) == (gtD p1 y5))) h25 (fun c9 => ?_) (fun c9 => ?_)
        · have hr := cnd_t c9 hr
          refine HT.seq ?_
          refine HT.text (l := ⟨_, true, .raw (.bool false)⟩ :: []) (tl := []) (by kernel_rfl) (by kernel_rfl) (by kernel_rfl) ?_ ?_
          · exact
              Obls.cons (Obl.plain rfl rfl fun R' w' hw hs hd => by exact of_assign rfl) <|
              Obls.nil
          intro R w hw hs hF'
          have h4 : R 4 = .bool false := hF' 0 _ _ rfl rfl rfl
          replace hA := hA.fr hw.size
          replace hF := hF.trans hw
          clear hs hF' hw
          refine seqR_nil ?_
          refine HT.ret ?_
          obtain rfl := Option.some.inj hr
          have hr := hr0
          replace hr : some _ = some _ := hr
          obtain rfl := Option.some.inj hr
          exact ⟨.inr rfl, [R 4], ⟨rfl, trivial⟩, h4, hF⟩
        · have hr := cnd_f c9 hr
          refine HT.skip ?_
          obtain ⟨e10, hr⟩ := ck_some hr
          refine HT.text (l := ⟨_, true, .raw (.int .i64 y5)⟩ :: ⟨_, true, .raw (.int .i64 (y5 + (1 : Int)))⟩ :: ⟨_, true, .raw (.int .i64 (y5 + (1 : Int)))⟩ :: []) (tl := []) (by kernel_rfl) (by kernel_rfl) (by kernel_rfl) ?_ ?_
          · exact
              Obls.cons (Obl.plain rfl rfl fun R' w' hw hs hd => by have a0 : R' 5 = .int .i64 y5 := (hs 5 rfl).trans h5; exact of_move a0) <|
              Obls.cons (Obl.plain rfl rfl fun R' w' hw hs hd => by have a0 : R' 15 = .int .i64 y5 := hd 0 _ _ _ rfl rfl rfl rfl rfl; exact of_add a0 rfl e10) <|
              Obls.cons (Obl.plain rfl rfl fun R' w' hw hs hd => by have a0 : R' 16 = .int .i64 (y5 + (1 : Int)) := hd 0 _ _ _ rfl rfl rfl rfl rfl; exact of_assign a0) <|
              Obls.nil
          intro R w hw hs hF'
          replace h0 : R 0 = v0 := (hs 0 rfl).trans h0
          replace h1 : R 1 = v1 := (hs 1 rfl).trans h1
          have h5 : R 5 = .int .i64 (y5 + (1 : Int)) := hF' 2 _ _ rfl rfl rfl
          replace f_v0 := f_v0.fr hw
          replace f_v1 := f_v1.fr hw
          replace hA := hA.fr hw.size
          replace hF := hF.trans hw
          clear hs hF' hw
          refine seqR_nil ?_
          exact Exists.intro k (And.intro (Nat.lt_succ_self k) ⟨_, hr, hA, hF, h0, h1, h5, f_v0, f_v1⟩)
      · have hr := cnd_f c6 hr
        refine HT.exit ?_
        obtain rfl := Option.some.inj hr
        exact Exists.intro _ ⟨rfl, hA, hF⟩
    rintro R w ⟨s4, rfl, hA, hF⟩
    have hr := exM_go hr
    refine HT.seq ?_
    refine HT.text (l := ⟨_, true, .raw (.bool true)⟩ :: []) (tl := []) (by kernel_rfl) (by kernel_rfl) (by kernel_rfl) ?_ ?_
    · exact
        Obls.cons (Obl.plain rfl rfl fun R' w' hw hs hd => by exact of_assign rfl) <|
        Obls.nil
    intro R w hw hs hF'
    have h4 : R 4 = .bool true := hF' 0 _ _ rfl rfl rfl
    replace hA := hA.fr hw.size
    replace hF := hF.trans hw
    clear hs hF' hw
    refine seqR_nil ?_
    refine HT.ret ?_
    obtain rfl := Option.some.inj hr
    exact ⟨.inr rfl, [R 4], ⟨rfl, trivial⟩, h4, hF⟩
end Go.Proofs.Ytmgiijdejigdhaa
