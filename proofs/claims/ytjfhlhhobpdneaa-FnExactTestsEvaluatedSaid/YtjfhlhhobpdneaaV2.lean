/- Printed by dec.py: plain functions and the proofs that the code computes them. No statement of the seat is proved here. -/
import Derived.Test.YtjfhlhhobpdneaaV1
namespace Go.Proofs.Ytjfhlhhobpdneaa
open Go.RowKit
set_option linter.unusedVariables false
def M_spec_IsValidDiagram_L1 (fu : Nat) (p0 : T_impl_Diagram) (y5 : Int) : Nat → Int → Option (Ex Bool Unit)
  | 0, _ => none
  | k + 1, y48 =>
    bif (decide (y48 < y5)) then (
      ck (inR y48 p0.2.length) <|
      bif ((gtD p0.2 y48) == (gtD p0.2 y5)) then (
        some (Ex.ret false)
      ) else (
        ck (i64B (y48 + (1 : Int))) <|
        M_spec_IsValidDiagram_L1 fu p0 y5 k (y48 + (1 : Int))
      )
    ) else (
      some (Ex.go ())
    )
def M_spec_IsValidDiagram_L0 (fu : Nat) (p0 : T_impl_Diagram) : Nat → Int → Option (Ex Bool Unit)
  | 0, _ => none
  | k + 1, y5 =>
    bif (decide (y5 < (p0.2.length : Int))) then (
      ck (inR y5 p0.2.length) <|
      cl true (M_spec_l1In fu ((gtD p0.2 y5).1) (0 : Int) (5 : Int)) fun x11 =>
      cl (true && ((!x11) == false)) (M_spec_l1In fu ((gtD p0.2 y5).2.1) (1 : Int) (1000 : Int)) fun x13 =>
      bd ((!x11) || (!x13)) fun x15 =>
      ck (!(true && (x15 == false)) || i64B (y5 + (1 : Int))) <|
      cl (true && (x15 == false)) (M_spec_l1In fu ((gtD p0.2 y5).2.2.1) (0 : Int) (y5 + (1 : Int))) fun x18 =>
      bd (x15 || (!x18)) fun x20 =>
      ck (!(true && (x20 == false)) || i64B (y5 + (1 : Int))) <|
      cl (true && (x20 == false)) (M_spec_l1In fu ((gtD p0.2 y5).2.2.2) (0 : Int) (y5 + (1 : Int))) fun x23 =>
      bd (x20 || (!x23)) fun x25 =>
      bd (x25 || (((gtD p0.2 y5).2.2.1) == ((gtD p0.2 y5).2.2.2))) fun x27 =>
      bif x27 then (
        some (Ex.ret false)
      ) else (
        ck (!(true && ((decide ((1 : Int) < ((gtD p0.2 y5).2.2.1))) == true)) || i64B (((gtD p0.2 y5).2.2.1) - (2 : Int))) <|
        ck (!(true && ((decide ((1 : Int) < ((gtD p0.2 y5).2.2.1))) == true)) || inR (((gtD p0.2 y5).2.2.1) - (2 : Int)) p0.2.length) <|
        cl (true && ((decide ((1 : Int) < ((gtD p0.2 y5).2.2.1))) == true)) (M_spec_l15Before fu (gtD p0.2 y5) (gtD p0.2 (((gtD p0.2 y5).2.2.1) - (2 : Int)))) fun x32 =>
        bd ((decide ((1 : Int) < ((gtD p0.2 y5).2.2.1))) && (!x32)) fun x34 =>
        ck (!((true && (x34 == false)) && ((decide ((1 : Int) < ((gtD p0.2 y5).2.2.2))) == true)) || i64B (((gtD p0.2 y5).2.2.2) - (2 : Int))) <|
        ck (!((true && (x34 == false)) && ((decide ((1 : Int) < ((gtD p0.2 y5).2.2.2))) == true)) || inR (((gtD p0.2 y5).2.2.2) - (2 : Int)) p0.2.length) <|
        cl ((true && (x34 == false)) && ((decide ((1 : Int) < ((gtD p0.2 y5).2.2.2))) == true)) (M_spec_l15Before fu (gtD p0.2 y5) (gtD p0.2 (((gtD p0.2 y5).2.2.2) - (2 : Int)))) fun x38 =>
        bd ((decide ((1 : Int) < ((gtD p0.2 y5).2.2.2))) && (!x38)) fun x40 =>
        bd (x34 || x40) fun x42 =>
        bif x42 then (
          some (Ex.ret false)
        ) else (
          cl true (M_spec_IsValidDiagram_L1 fu p0 y5 fu (0 : Int)) fun rl45 =>
          exM rl45 (fun r => some (Ex.ret r)) fun s47 =>
          ck (i64B (y5 + (1 : Int))) <|
          M_spec_IsValidDiagram_L0 fu p0 k (y5 + (1 : Int))
        )
      )
    ) else (
      some (Ex.go ())
    )
def M_spec_IsValidDiagram (fu : Nat) (p0 : T_impl_Diagram) : Option Bool :=
  cl true (M_spec_IsValidDiagram_L0 fu p0 fu (0 : Int)) fun rl2 =>
  exM rl2 (fun r => some r) fun s4 =>
  ck (i64B ((p0.2.length : Int) + (1 : Int))) <|
  cl true (M_spec_l1In fu p0.1 (0 : Int) ((p0.2.length : Int) + (1 : Int))) fun x55 =>
  bd (x55 && (decide ((p0.2.length : Int) ≤ (200 : Int)))) fun x57 =>
  some x57
set_option maxRecDepth 100000 in
set_option maxHeartbeats 4000000 in
theorem M_spec_IsValidDiagram_ok {fu : Nat} {A0 : Av} {p0 : T_impl_Diagram} {r : Bool} (hr : M_spec_IsValidDiagram fu p0 = some r) {w : World} {v0 : Value} (hA : AvOK A0 w) (h0 : Rep E_impl_Diagram A0 w v0 p0) :
    Calls Try.prog 23 #[v0] w fun e w' => ∃ v, e = .returned v ∧ (v = .bool r ∧ Fr w w') := by
  unfold M_spec_IsValidDiagram at hr
  obtain ⟨w0, hw0⟩ : ∃ w0, w0 = w := ⟨_, rfl⟩
  have hF : Fr w0 w := hw0 ▸ Fr.refl _
  have hA0 : ∀ b o, A0 b o → b < w0.heap.size := fun b o h => hw0 ▸ hA b o h
  have hA00 : AvOK A0 w0 := hA0
  rw [show Fr w = Fr w0 from hw0 ▸ rfl]
  clear hw0
  obtain ⟨A, hAe⟩ : ∃ A, A = A0 := ⟨_, rfl⟩
  have hAA : ∀ b o, A0 b o → A b o := fun b o h => hAe ▸ h
  replace hA : AvOK A w := hAe ▸ hA
  have hO : IniOK [] A w := IniOK.nil
  refine calls_of_HT2 [.tmp 2] Try.func23 Try.ntmps23 (by decide) rfl rfl (Nat.le_of_ble_eq_true rfl) ?_
  intro R hR
  have f_v0 : Rep E_impl_Diagram A w v0 p0 := hAe ▸ h0
  replace h0 : R 0 = v0 := hR 0 _ rfl
  clear hR hAe
  refine HT.seq ?_
  refine HT.textR [] (⟨_, true, none, some (.box w0.heap.size 43 E_impl_Diagram p0), true, fun A => .any⟩ :: ⟨_, true, none, none, true, fun A => .raw (.bool false)⟩ :: []) (by kernel_rfl) (by kernel_rfl) (Wf.mk' (by kernel_rfl) (UAll.cons ust_any (UAll.cons ust_raw (UAll.nil))) (by kernel_rfl) (by kernel_rfl)) hO hA ?_ ?_
  · exact
      OblsR.cons (OblR.made _ rfl rfl rfl rfl fun A' R' w' ho hd => by have a0 : R' 0 = v0 := (ho.old 0 rfl).trans h0; have ra0 := (f_v0.stp ho.stp).eq a0; exact made_box ra0 (Nat.le_trans hF.size ho.ch.size)) <|
      OblsR.cons (OblR.plain rfl rfl rfl rfl fun A' R' w' ho hd => by exact of_assign rfl) <|
      OblsR.nil
  intro done ρ A R w hdn hI
  obtain ⟨b1_0, e_b1_0⟩ := hI.boxv hdn 0 rfl rfl
  have h1 : R 1 = (.pointer (some ⟨b1_0, 0, none⟩)) := (hI.opvR hdn 0 0 rfl rfl rfl rfl rfl).symm.trans e_b1_0
  replace hAA := hI.low' hAA hA0 (hO.ge (trivial))
  replace hF : Fr w0 w := Below.trans hF (hI.ch.below hF.size (hO.ge (trivial)))
  replace hO : IniOK [((.pointer (some ⟨b1_0, 0, none⟩)), .box w0.heap.size 43 E_impl_Diagram p0)] A w := hI.left hdn [(0, (.pointer (some ⟨b1_0, 0, none⟩)), .box w0.heap.size 43 E_impl_Diagram p0)] ⟨rfl, rfl, e_b1_0, rfl, trivial⟩
  replace hA := hI.avok
  clear hI
  refine HT.seq ?_
  refine HT.seq ?_
  refine HT.text (l := ⟨_, true, .raw (.int .i64 (0 : Int))⟩ :: []) (tl := []) (by kernel_rfl) (by kernel_rfl) (by kernel_rfl) ?_ ?_
  · exact
      Obls.cons (Obl.plain rfl rfl fun R' w' hw hs hd => by exact of_assign rfl) <|
      Obls.nil
  intro R w hw hs hF'
  replace h1 : R 1 = (.pointer (some ⟨b1_0, 0, none⟩)) := (hs 1 rfl).trans h1
  have h3 : R 3 = .int .i64 (0 : Int) := hF' 0 _ _ rfl rfl rfl
  replace hO := hO.fr hw
  replace hA := hA.fr hw.size
  replace hF := hF.trans hw
  clear hs hF' hw
  refine seqR_nil ?_
  obtain ⟨rl2, q3, hr⟩ := cl_some hr
  replace q3 := q3 rfl
  refine HT.cut0 (fun R w => ∃ A : Av, ∃ (s4 : Unit), rl2 = Ex.go s4 ∧ AvOK A w ∧ Fr w0 w ∧ (∀ b o, A0 b o → A b o) ∧ IniOK [((.pointer (some ⟨b1_0, 0, none⟩)), .box w0.heap.size 43 E_impl_Diagram p0)] A w ∧ R 1 = (.pointer (some ⟨b1_0, 0, none⟩))) ?_ ?_
  · refine HT.block ?_
    refine HT.loop (fun k R w => ∃ A : Av, ∃ (y5 : Int), M_spec_IsValidDiagram_L0 fu p0 k y5 = some rl2 ∧ AvOK A w ∧ Fr w0 w ∧ (∀ b o, A0 b o → A b o) ∧ IniOK [((.pointer (some ⟨b1_0, 0, none⟩)), .box w0.heap.size 43 E_impl_Diagram p0)] A w ∧ R 1 = (.pointer (some ⟨b1_0, 0, none⟩)) ∧ R 3 = .int .i64 y5) fu ⟨_, _, q3, hA, hF, hAA, hO, h1, h3⟩ ?_
    have hr0 := hr; clear hr q3
    rintro k R w ⟨A, y5, hr, hA, hF, hAA, hO, h1, h3⟩
    rcases k with _ | k
    · cases (show none = some _ from hr)
    rw [M_spec_IsValidDiagram_L0] at hr
    refine HT.seq ?_
    refine HT.seq ?_
    refine HT.text (l := ⟨_, true, .raw (.int .i64 y5)⟩ :: ⟨_, true, .raw (.pointer (some ⟨b1_0, 1, none⟩))⟩ :: ⟨_, true, .rep (eSl E_impl_DiagramNode) A p0.2⟩ :: ⟨_, true, .raw (.int .i64 (p0.2.length : Int))⟩ :: ⟨_, true, .raw (.bool (decide (y5 < (p0.2.length : Int))))⟩ :: []) (tl := []) (by kernel_rfl) (by kernel_rfl) (by kernel_rfl) ?_ ?_
    · exact
        Obls.cons (Obl.plain rfl rfl fun R' w' hw hs hd => by have a0 : R' 3 = .int .i64 y5 := (hs 3 rfl).trans h3; exact of_move a0) <|
        Obls.cons (Obl.plain rfl rfl fun R' w' hw hs hd => by have a0 : R' 1 = (.pointer (some ⟨b1_0, 0, none⟩)) := (hs 1 rfl).trans h1; exact of_fieldAddr_raw a0 ff_43_1 Try.sizeOf41 (by decide) rfl) <|
        Obls.cons (Obl.plain rfl rfl fun R' w' hw hs hd => by have a0 : R' 7 = (.pointer (some ⟨b1_0, 1, none⟩)) := hd 0 _ _ _ rfl rfl rfl rfl rfl; exact (of_load_box ((hO.fr hw).ok 0 _ rfl).1 a0 fl_impl_Diagram_1 rfl Try.isAgg41 Try.sizeOf41)) <|
        Obls.cons (Obl.plain rfl rfl fun R' w' hw hs hd => by have a0 : Rep (eSl E_impl_DiagramNode) A w' (R' 8) p0.2 := hd 0 _ _ _ rfl rfl rfl rfl rfl; exact of_len_sl (aT := #[]) a0 Try.underlying41) <|
        Obls.cons (Obl.plain rfl rfl fun R' w' hw hs hd => by have a0 : R' 6 = .int .i64 y5 := hd 0 _ _ _ rfl rfl rfl rfl rfl; have a1 : R' 9 = .int .i64 (p0.2.length : Int) := hd 1 _ _ _ rfl rfl rfl rfl rfl; exact of_lss a0 a1) <|
        Obls.nil
    intro R w hw hs hF'
    replace h1 : R 1 = (.pointer (some ⟨b1_0, 0, none⟩)) := (hs 1 rfl).trans h1
    replace h3 : R 3 = .int .i64 y5 := (hs 3 rfl).trans h3
    have h10 : R 10 = .bool (decide (y5 < (p0.2.length : Int))) := hF' 4 _ _ rfl rfl rfl
    replace hO := hO.fr hw
    replace hA := hA.fr hw.size
    replace hF := hF.trans hw
    clear hs hF' hw
    refine seqR_nil ?_
    refine HT.cond (decide (y5 < (p0.2.length : Int))) h10 (fun c6 => ?_) (fun c6 => ?_)
    · have hr := cnd_t c6 hr
      refine HT.skip ?_
      refine HT.seq ?_
      refine HT.block ?_
      refine HT.seq ?_
      obtain ⟨e7, hr⟩ := ck_some hr
      refine HT.textR [((.pointer (some ⟨b1_0, 0, none⟩)), .box w0.heap.size 43 E_impl_Diagram p0)] (⟨_, true, none, none, true, fun A => .raw (.pointer (some ⟨b1_0, 1, none⟩))⟩ :: ⟨_, true, none, none, true, fun A => .rep (eSl E_impl_DiagramNode) A p0.2⟩ :: ⟨_, true, none, none, true, fun A => .raw (.int .i64 y5)⟩ :: ⟨_, true, none, none, true, fun A => .qtr E_impl_DiagramNode A (gtD p0.2 y5)⟩ :: ⟨_, true, none, none, true, fun A => .rep E_impl_DiagramNode A (gtD p0.2 y5)⟩ :: ⟨_, true, none, some (.box w0.heap.size 92 E_impl_DiagramNode ((0 : Int), ((0 : Int), ((0 : Int), (0 : Int))))), true, fun A => .any⟩ :: ⟨_, true, some 6, some (.box w0.heap.size 92 E_impl_DiagramNode (gtD p0.2 y5)), false, fun A => .any⟩ :: []) (by kernel_rfl) (by kernel_rfl) (Wf.mk' (by kernel_rfl) (UAll.cons ust_raw (UAll.cons ust_rep (UAll.cons ust_raw (UAll.cons ust_qtr (UAll.cons ust_rep (UAll.cons ust_any (UAll.cons ust_any (UAll.nil)))))))) (by kernel_rfl) (by kernel_rfl)) hO hA ?_ ?_
      · exact
          OblsR.cons (OblR.plain rfl rfl rfl rfl fun A' R' w' ho hd => by have a0 : R' 1 = (.pointer (some ⟨b1_0, 0, none⟩)) := (ho.old 1 rfl).trans h1; exact of_fieldAddr_raw a0 ff_43_1 Try.sizeOf41 (by decide) rfl) <|
          OblsR.cons (OblR.plain rfl rfl rfl rfl fun A' R' w' ho hd => by have a0 : R' 13 = (.pointer (some ⟨b1_0, 1, none⟩)) := hd 0 _ _ _ rfl rfl rfl rfl rfl; exact (of_load_box (ho.rd 0 _ rfl rfl) a0 fl_impl_Diagram_1 rfl Try.isAgg41 Try.sizeOf41)) <|
          OblsR.cons (OblR.plain rfl rfl rfl rfl fun A' R' w' ho hd => by have a0 : R' 3 = .int .i64 y5 := (ho.old 3 rfl).trans h3; exact of_move a0) <|
          OblsR.cons (OblR.plain rfl rfl rfl rfl fun A' R' w' ho hd => by have a0 : Rep (eSl E_impl_DiagramNode) A' w' (R' 14) p0.2 := hd 0 _ _ _ rfl rfl rfl rfl rfl; have a1 : R' 15 = .int .i64 y5 := hd 1 _ _ _ rfl rfl rfl rfl rfl; exact of_indexAddr a0 a1 Try.underlying41 Try.sizeOf92 e7) <|
          OblsR.cons (OblR.plain rfl rfl rfl rfl fun A' R' w' ho hd => by have a0 : QRep E_impl_DiagramNode A' w' (R' 16) (gtD p0.2 y5) := hd 0 _ _ _ rfl rfl rfl rfl rfl; exact (of_load a0.ptr Try.isAgg92 Try.sizeOf92)) <|
          OblsR.cons (OblR.made _ rfl rfl rfl rfl fun A' R' w' ho hd => by exact made_alloc Try.zeroValue92 (fun A w => rep_pr rep1_int (rep_pr rep1_int (rep_pr rep1_int rep1_int))) (Nat.le_trans hF.size ho.ch.size)) <|
          OblsR.cons (OblR.took 6 _ _ rfl rfl rfl rfl rfl fun A' R' w' ho hd u hok hav hin hop => by have a1 : Rep E_impl_DiagramNode A' w' (R' 17) (gtD p0.2 y5) := hd 1 _ _ _ rfl rfl rfl rfl rfl; obtain ⟨b, hb, hB', hbx⟩ := hok; have hop' := hop _ _ rfl rfl rfl rfl; exact took_store a1 (hop'.symm.trans hb) hb ⟨b, hb, hB', hbx⟩ hav (FldS.id _) Try.sizeOf92 rfl) <|
          OblsR.nil
      intro done ρ A R w hdn hI
      replace h1 : R 1 = (.pointer (some ⟨b1_0, 0, none⟩)) := (hI.reg rfl).trans h1
      replace h3 : R 3 = .int .i64 y5 := (hI.reg rfl).trans h3
      have z8 := hI.inivR 0 rfl
      obtain ⟨b4_8, e_b4_8⟩ := hI.boxv hdn 7 rfl rfl
      have z10 := (hI.opnR hdn 7 6 rfl rfl rfl rfl rfl).symm.trans e_b4_8
      have h4 : R 4 = (.pointer (some ⟨b4_8, 0, none⟩)) := (hI.opvR hdn 6 5 rfl rfl rfl rfl rfl).symm.trans z10
      replace hAA := hI.low' hAA hA0 (hO.ge (⟨rfl, trivial⟩))
      replace hF : Fr w0 w := Below.trans hF (hI.ch.below hF.size (hO.ge (⟨rfl, trivial⟩)))
      replace hO : IniOK [((.pointer (some ⟨b1_0, 0, none⟩)), .box w0.heap.size 43 E_impl_Diagram p0), ((.pointer (some ⟨b4_8, 0, none⟩)), .box w0.heap.size 92 E_impl_DiagramNode (gtD p0.2 y5))] A w := hI.left hdn [(0, (.pointer (some ⟨b1_0, 0, none⟩)), .box w0.heap.size 43 E_impl_Diagram p0), (7, (.pointer (some ⟨b4_8, 0, none⟩)), .box w0.heap.size 92 E_impl_DiagramNode (gtD p0.2 y5))] ⟨rfl, rfl, z8, rfl, ⟨rfl, rfl, e_b4_8, rfl, trivial⟩⟩
      replace hA := hI.avok
      clear hI
      refine HT.seq ?_
      refine HT.seq ?_
      obtain ⟨x11, q12, hr⟩ := cl_some hr
      obtain ⟨x13, q14, hr⟩ := cl_some hr
      obtain ⟨x15, q16, hr⟩ := bd_some hr
      obtain ⟨e17, hr⟩ := ck_some hr
      obtain ⟨x18, q19, hr⟩ := cl_some hr
      obtain ⟨x20, q21, hr⟩ := bd_some hr
      obtain ⟨e22, hr⟩ := ck_some hr
      obtain ⟨x23, q24, hr⟩ := cl_some hr
      obtain ⟨x25, q26, hr⟩ := bd_some hr
      obtain ⟨x27, q28, hr⟩ := bd_some hr
      refine HT.text (l := ⟨_, true, .raw (.pointer (some ⟨b4_8, 0, none⟩))⟩ :: ⟨_, true, .raw (.int .i64 ((gtD p0.2 y5).1))⟩ :: ⟨_, true, .raw (.bool x11)⟩ :: ⟨_, true, .raw (.bool (!x11))⟩ :: ⟨_, true, .raw (.bool (!x11))⟩ :: ⟨_, (true && ((!x11) == false)), .raw (.pointer (some ⟨b4_8, 1, none⟩))⟩ :: ⟨_, (true && ((!x11) == false)), .raw (.int .i64 ((gtD p0.2 y5).2.1))⟩ :: ⟨_, (true && ((!x11) == false)), .raw (.bool x13)⟩ :: ⟨_, (true && ((!x11) == false)), .raw (.bool (!x13))⟩ :: ⟨_, true, .raw (.bool x15)⟩ :: ⟨_, true, .raw (.bool x15)⟩ :: ⟨_, (true && (x15 == false)), .raw (.pointer (some ⟨b4_8, 2, none⟩))⟩ :: ⟨_, (true && (x15 == false)), .raw (.int .i64 ((gtD p0.2 y5).2.2.1))⟩ :: ⟨_, (true && (x15 == false)), .raw (.int .i64 y5)⟩ :: ⟨_, (true && (x15 == false)), .raw (.int .i64 (y5 + (1 : Int)))⟩ :: ⟨_, (true && (x15 == false)), .raw (.bool x18)⟩ :: ⟨_, (true && (x15 == false)), .raw (.bool (!x18))⟩ :: ⟨_, true, .raw (.bool x20)⟩ :: ⟨_, true, .raw (.bool x20)⟩ :: ⟨_, (true && (x20 == false)), .raw (.pointer (some ⟨b4_8, 3, none⟩))⟩ :: ⟨_, (true && (x20 == false)), .raw (.int .i64 ((gtD p0.2 y5).2.2.2))⟩ :: ⟨_, (true && (x20 == false)), .raw (.int .i64 y5)⟩ :: ⟨_, (true && (x20 == false)), .raw (.int .i64 (y5 + (1 : Int)))⟩ :: ⟨_, (true && (x20 == false)), .raw (.bool x23)⟩ :: ⟨_, (true && (x20 == false)), .raw (.bool (!x23))⟩ :: ⟨_, true, .raw (.bool x25)⟩ :: ⟨_, true, .raw (.bool x25)⟩ :: ⟨_, (true && (x25 == false)), .raw (.pointer (some ⟨b4_8, 2, none⟩))⟩ :: ⟨_, (true && (x25 == false)), .raw (.int .i64 ((gtD p0.2 y5).2.2.1))⟩ :: ⟨_, (true && (x25 == false)), .raw (.pointer (some ⟨b4_8, 3, none⟩))⟩ :: ⟨_, (true && (x25 == false)), .raw (.int .i64 ((gtD p0.2 y5).2.2.2))⟩ :: ⟨_, (true && (x25 == false)), .raw (.bool (((gtD p0.2 y5).2.2.1) == ((gtD p0.2 y5).2.2.2)))⟩ :: ⟨_, true, .raw (.bool x27)⟩ :: []) (tl := []) (by kernel_rfl) (by kernel_rfl) (by kernel_rfl) ?_ ?_
      · exact
          Obls.cons (Obl.plain rfl rfl fun R' w' hw hs hd => by have a0 : R' 4 = (.pointer (some ⟨b4_8, 0, none⟩)) := (hs 4 rfl).trans h4; exact of_fieldAddr_raw a0 ff_92_0 Try.sizeOf3 (by decide) rfl) <|
          Obls.cons (Obl.plain rfl rfl fun R' w' hw hs hd => by have a0 : R' 18 = (.pointer (some ⟨b4_8, 0, none⟩)) := hd 0 _ _ _ rfl rfl rfl rfl rfl; exact OpF.int (of_load_box ((hO.fr hw).ok 1 _ rfl).1 a0 fl_impl_DiagramNode_0 rfl Try.isAgg3 Try.sizeOf3)) <|
          Obls.cons (Obl.plain rfl rfl fun R' w' hw hs hd => by have a0 : R' 19 = .int .i64 ((gtD p0.2 y5).1) := hd 0 _ _ _ rfl rfl rfl rfl rfl; exact of_call Try.call70 (M_spec_l1In_ok (q12 rfl) (hA.fr hw.size) a0 rfl rfl)) <|
          Obls.cons (Obl.plain rfl rfl fun R' w' hw hs hd => by have a0 : R' 20 = .bool x11 := hd 0 _ _ _ rfl rfl rfl rfl rfl; exact of_not a0) <|
          Obls.cons (Obl.plain rfl rfl fun R' w' hw hs hd => by have a0 : R' 21 = .bool (!x11) := hd 0 _ _ _ rfl rfl rfl rfl rfl; exact of_move a0) <|
          Obls.cons (Obl.grd 4 false _ _ _ rfl rfl rfl rfl rfl (by kernel_rfl) fun hg R' w' hw hs hd => by have a0 : R' 4 = (.pointer (some ⟨b4_8, 0, none⟩)) := (hs 4 rfl).trans h4; exact of_fieldAddr_raw a0 ff_92_1 Try.sizeOf3 (by decide) rfl) <|
          Obls.cons (Obl.grd 4 false _ _ _ rfl rfl rfl rfl rfl (by kernel_rfl) fun hg R' w' hw hs hd => by have a0 : R' 23 = (.pointer (some ⟨b4_8, 1, none⟩)) := hd 0 _ _ _ rfl rfl rfl rfl hg; exact OpF.int (of_load_box ((hO.fr hw).ok 1 _ rfl).1 a0 fl_impl_DiagramNode_1 rfl Try.isAgg3 Try.sizeOf3)) <|
          Obls.cons (Obl.grd 4 false _ _ _ rfl rfl rfl rfl rfl (by kernel_rfl) fun hg R' w' hw hs hd => by have a0 : R' 24 = .int .i64 ((gtD p0.2 y5).2.1) := hd 0 _ _ _ rfl rfl rfl rfl hg; exact of_call Try.call70 (M_spec_l1In_ok (q14 hg) (hA.fr hw.size) a0 rfl rfl)) <|
          Obls.cons (Obl.grd 4 false _ _ _ rfl rfl rfl rfl rfl (by kernel_rfl) fun hg R' w' hw hs hd => by have a0 : R' 25 = .bool x13 := hd 0 _ _ _ rfl rfl rfl rfl hg; exact of_not a0) <|
          Obls.cons (Obl.plain rfl rfl fun R' w' hw hs hd => by have a0 : R' 22 = .bool (!x11) := hd 0 _ _ _ rfl rfl rfl rfl rfl; exact of_pick (!x11) a0 (fun hc => by show _ = Value.bool x15; rw [q16, hc]; exact rfl) (fun hc => by have a2 : R' 26 = .bool (!x13) := hd 1 _ _ _ rfl rfl rfl rfl (g_and rfl (beq_of hc)); show _ = Value.bool x15; rw [q16, hc]; exact a2)) <|
          Obls.cons (Obl.plain rfl rfl fun R' w' hw hs hd => by have a0 : R' 27 = .bool x15 := hd 0 _ _ _ rfl rfl rfl rfl rfl; exact of_move a0) <|
          Obls.cons (Obl.grd 10 false _ _ _ rfl rfl rfl rfl rfl (by kernel_rfl) fun hg R' w' hw hs hd => by have a0 : R' 4 = (.pointer (some ⟨b4_8, 0, none⟩)) := (hs 4 rfl).trans h4; exact of_fieldAddr_raw a0 ff_92_2 Try.sizeOf3 (by decide) rfl) <|
          Obls.cons (Obl.grd 10 false _ _ _ rfl rfl rfl rfl rfl (by kernel_rfl) fun hg R' w' hw hs hd => by have a0 : R' 29 = (.pointer (some ⟨b4_8, 2, none⟩)) := hd 0 _ _ _ rfl rfl rfl rfl hg; exact OpF.int (of_load_box ((hO.fr hw).ok 1 _ rfl).1 a0 fl_impl_DiagramNode_2 rfl Try.isAgg3 Try.sizeOf3)) <|
          Obls.cons (Obl.grd 10 false _ _ _ rfl rfl rfl rfl rfl (by kernel_rfl) fun hg R' w' hw hs hd => by have a0 : R' 3 = .int .i64 y5 := (hs 3 rfl).trans h3; exact of_move a0) <|
          Obls.cons (Obl.grd 10 false _ _ _ rfl rfl rfl rfl rfl (by kernel_rfl) fun hg R' w' hw hs hd => by have a0 : R' 31 = .int .i64 y5 := hd 0 _ _ _ rfl rfl rfl rfl hg; exact of_add a0 rfl (gd e17 hg)) <|
          Obls.cons (Obl.grd 10 false _ _ _ rfl rfl rfl rfl rfl (by kernel_rfl) fun hg R' w' hw hs hd => by have a0 : R' 30 = .int .i64 ((gtD p0.2 y5).2.2.1) := hd 0 _ _ _ rfl rfl rfl rfl hg; have a2 : R' 32 = .int .i64 (y5 + (1 : Int)) := hd 1 _ _ _ rfl rfl rfl rfl hg; exact of_call Try.call70 (M_spec_l1In_ok (q19 hg) (hA.fr hw.size) a0 rfl a2)) <|
          Obls.cons (Obl.grd 10 false _ _ _ rfl rfl rfl rfl rfl (by kernel_rfl) fun hg R' w' hw hs hd => by have a0 : R' 33 = .bool x18 := hd 0 _ _ _ rfl rfl rfl rfl hg; exact of_not a0) <|
          Obls.cons (Obl.plain rfl rfl fun R' w' hw hs hd => by have a0 : R' 28 = .bool x15 := hd 0 _ _ _ rfl rfl rfl rfl rfl; exact of_pick x15 a0 (fun hc => by show _ = Value.bool x20; rw [q21, hc]; exact rfl) (fun hc => by have a2 : R' 34 = .bool (!x18) := hd 1 _ _ _ rfl rfl rfl rfl (g_and rfl (beq_of hc)); show _ = Value.bool x20; rw [q21, hc]; exact a2)) <|
          Obls.cons (Obl.plain rfl rfl fun R' w' hw hs hd => by have a0 : R' 35 = .bool x20 := hd 0 _ _ _ rfl rfl rfl rfl rfl; exact of_move a0) <|
          Obls.cons (Obl.grd 18 false _ _ _ rfl rfl rfl rfl rfl (by kernel_rfl) fun hg R' w' hw hs hd => by have a0 : R' 4 = (.pointer (some ⟨b4_8, 0, none⟩)) := (hs 4 rfl).trans h4; exact of_fieldAddr_raw a0 ff_92_3 Try.sizeOf3 (by decide) rfl) <|
          Obls.cons (Obl.grd 18 false _ _ _ rfl rfl rfl rfl rfl (by kernel_rfl) fun hg R' w' hw hs hd => by have a0 : R' 37 = (.pointer (some ⟨b4_8, 3, none⟩)) := hd 0 _ _ _ rfl rfl rfl rfl hg; exact OpF.int (of_load_box ((hO.fr hw).ok 1 _ rfl).1 a0 fl_impl_DiagramNode_3 rfl Try.isAgg3 Try.sizeOf3)) <|
          Obls.cons (Obl.grd 18 false _ _ _ rfl rfl rfl rfl rfl (by kernel_rfl) fun hg R' w' hw hs hd => by have a0 : R' 3 = .int .i64 y5 := (hs 3 rfl).trans h3; exact of_move a0) <|
          Obls.cons (Obl.grd 18 false _ _ _ rfl rfl rfl rfl rfl (by kernel_rfl) fun hg R' w' hw hs hd => by have a0 : R' 39 = .int .i64 y5 := hd 0 _ _ _ rfl rfl rfl rfl hg; exact of_add a0 rfl (gd e22 hg)) <|
          Obls.cons (Obl.grd 18 false _ _ _ rfl rfl rfl rfl rfl (by kernel_rfl) fun hg R' w' hw hs hd => by have a0 : R' 38 = .int .i64 ((gtD p0.2 y5).2.2.2) := hd 0 _ _ _ rfl rfl rfl rfl hg; have a2 : R' 40 = .int .i64 (y5 + (1 : Int)) := hd 1 _ _ _ rfl rfl rfl rfl hg; exact of_call Try.call70 (M_spec_l1In_ok (q24 hg) (hA.fr hw.size) a0 rfl a2)) <|
          Obls.cons (Obl.grd 18 false _ _ _ rfl rfl rfl rfl rfl (by kernel_rfl) fun hg R' w' hw hs hd => by have a0 : R' 41 = .bool x23 := hd 0 _ _ _ rfl rfl rfl rfl hg; exact of_not a0) <|
          Obls.cons (Obl.plain rfl rfl fun R' w' hw hs hd => by have a0 : R' 36 = .bool x20 := hd 0 _ _ _ rfl rfl rfl rfl rfl; exact of_pick x20 a0 (fun hc => by show _ = Value.bool x25; rw [q26, hc]; exact rfl) (fun hc => by have a2 : R' 42 = .bool (!x23) := hd 1 _ _ _ rfl rfl rfl rfl (g_and rfl (beq_of hc)); show _ = Value.bool x25; rw [q26, hc]; exact a2)) <|
          Obls.cons (Obl.plain rfl rfl fun R' w' hw hs hd => by have a0 : R' 43 = .bool x25 := hd 0 _ _ _ rfl rfl rfl rfl rfl; exact of_move a0) <|
          Obls.cons (Obl.grd 26 false _ _ _ rfl rfl rfl rfl rfl (by kernel_rfl) fun hg R' w' hw hs hd => by have a0 : R' 4 = (.pointer (some ⟨b4_8, 0, none⟩)) := (hs 4 rfl).trans h4; exact of_fieldAddr_raw a0 ff_92_2 Try.sizeOf3 (by decide) rfl) <|
          Obls.cons (Obl.grd 26 false _ _ _ rfl rfl rfl rfl rfl (by kernel_rfl) fun hg R' w' hw hs hd => by have a0 : R' 45 = (.pointer (some ⟨b4_8, 2, none⟩)) := hd 0 _ _ _ rfl rfl rfl rfl hg; exact OpF.int (of_load_box ((hO.fr hw).ok 1 _ rfl).1 a0 fl_impl_DiagramNode_2 rfl Try.isAgg3 Try.sizeOf3)) <|
          Obls.cons (Obl.grd 26 false _ _ _ rfl rfl rfl rfl rfl (by kernel_rfl) fun hg R' w' hw hs hd => by have a0 : R' 4 = (.pointer (some ⟨b4_8, 0, none⟩)) := (hs 4 rfl).trans h4; exact of_fieldAddr_raw a0 ff_92_3 Try.sizeOf3 (by decide) rfl) <|
          Obls.cons (Obl.grd 26 false _ _ _ rfl rfl rfl rfl rfl (by kernel_rfl) fun hg R' w' hw hs hd => by have a0 : R' 47 = (.pointer (some ⟨b4_8, 3, none⟩)) := hd 0 _ _ _ rfl rfl rfl rfl hg; exact OpF.int (of_load_box ((hO.fr hw).ok 1 _ rfl).1 a0 fl_impl_DiagramNode_3 rfl Try.isAgg3 Try.sizeOf3)) <|
          Obls.cons (Obl.grd 26 false _ _ _ rfl rfl rfl rfl rfl (by kernel_rfl) fun hg R' w' hw hs hd => by have a0 : R' 46 = .int .i64 ((gtD p0.2 y5).2.2.1) := hd 0 _ _ _ rfl rfl rfl rfl hg; have a1 : R' 48 = .int .i64 ((gtD p0.2 y5).2.2.2) := hd 1 _ _ _ rfl rfl rfl rfl hg; exact of_eql a0 a1) <|
          Obls.cons (Obl.plain rfl rfl fun R' w' hw hs hd => by have a0 : R' 44 = .bool x25 := hd 0 _ _ _ rfl rfl rfl rfl rfl; exact of_pick x25 a0 (fun hc => by show _ = Value.bool x27; rw [q28, hc]; exact rfl) (fun hc => by have a2 : R' 49 = .bool (((gtD p0.2 y5).2.2.1) == ((gtD p0.2 y5).2.2.2)) := hd 1 _ _ _ rfl rfl rfl rfl (g_and rfl (beq_of hc)); show _ = Value.bool x27; rw [q28, hc]; exact a2)) <|
          Obls.nil
      intro R w hw hs hF'
      replace h1 : R 1 = (.pointer (some ⟨b1_0, 0, none⟩)) := (hs 1 rfl).trans h1
      replace h3 : R 3 = .int .i64 y5 := (hs 3 rfl).trans h3
      replace h4 : R 4 = (.pointer (some ⟨b4_8, 0, none⟩)) := (hs 4 rfl).trans h4
      have h50 : R 50 = .bool x27 := hF' 32 _ _ rfl rfl rfl
      replace hO := hO.fr hw
      replace hA := hA.fr hw.size
      replace hF := hF.trans hw
      clear hs hF' hw
      refine seqR_nil ?_
      refine HT.cond x27 h50 (fun c29 => ?_) (fun c29 => ?_)
      · have hr := cnd_t c29 hr
        refine HT.seq ?_
        refine HT.text (l := ⟨_, true, .raw (.bool false)⟩ :: []) (tl := []) (by kernel_rfl) (by kernel_rfl) (by kernel_rfl) ?_ ?_
        · exact
            Obls.cons (Obl.plain rfl rfl fun R' w' hw hs hd => by exact of_assign rfl) <|
            Obls.nil
        intro R w hw hs hF'
        have h2 : R 2 = .bool false := hF' 0 _ _ rfl rfl rfl
        replace hO := hO.fr hw
        replace hO : IniOK [] A w := hO.sub [] trivial
        replace hA := hA.fr hw.size
        replace hF := hF.trans hw
        clear hs hF' hw
        refine seqR_nil ?_
        refine HT.ret ?_
        obtain rfl := Option.some.inj hr
        have hr := hr0
        replace hr : some _ = some _ := hr
        obtain rfl := Option.some.inj hr
        exact ⟨.inr rfl, [R 2], ⟨rfl, trivial⟩, h2, hF⟩
      · have hr := cnd_f c29 hr
        refine HT.skip ?_
        refine HT.seq ?_
        refine HT.seq ?_
        obtain ⟨e30, hr⟩ := ck_some hr
        obtain ⟨e31, hr⟩ := ck_some hr
        obtain ⟨x32, q33, hr⟩ := cl_some hr
        obtain ⟨x34, q35, hr⟩ := bd_some hr
        obtain ⟨e36, hr⟩ := ck_some hr
        obtain ⟨e37, hr⟩ := ck_some hr
        obtain ⟨x38, q39, hr⟩ := cl_some hr
        obtain ⟨x40, q41, hr⟩ := bd_some hr
        obtain ⟨x42, q43, hr⟩ := bd_some hr
        refine HT.draw (by kernel_rfl) (l := ⟨_, true, .raw (.pointer (some ⟨b4_8, 2, none⟩))⟩ :: ⟨_, true, .raw (.int .i64 ((gtD p0.2 y5).2.2.1))⟩ :: ⟨_, true, .raw (.bool (decide ((1 : Int) < ((gtD p0.2 y5).2.2.1))))⟩ :: ⟨_, true, .raw (.bool (decide ((1 : Int) < ((gtD p0.2 y5).2.2.1))))⟩ :: ⟨_, (true && ((decide ((1 : Int) < ((gtD p0.2 y5).2.2.1))) == true)), .rep E_impl_DiagramNode A (gtD p0.2 y5)⟩ :: ⟨_, (true && ((decide ((1 : Int) < ((gtD p0.2 y5).2.2.1))) == true)), .raw (.pointer (some ⟨b1_0, 1, none⟩))⟩ :: ⟨_, (true && ((decide ((1 : Int) < ((gtD p0.2 y5).2.2.1))) == true)), .rep (eSl E_impl_DiagramNode) A p0.2⟩ :: ⟨_, (true && ((decide ((1 : Int) < ((gtD p0.2 y5).2.2.1))) == true)), .raw (.pointer (some ⟨b4_8, 2, none⟩))⟩ :: ⟨_, (true && ((decide ((1 : Int) < ((gtD p0.2 y5).2.2.1))) == true)), .raw (.int .i64 ((gtD p0.2 y5).2.2.1))⟩ :: ⟨_, (true && ((decide ((1 : Int) < ((gtD p0.2 y5).2.2.1))) == true)), .raw (.int .i64 (((gtD p0.2 y5).2.2.1) - (2 : Int)))⟩ :: ⟨_, (true && ((decide ((1 : Int) < ((gtD p0.2 y5).2.2.1))) == true)), .qtr E_impl_DiagramNode A (gtD p0.2 (((gtD p0.2 y5).2.2.1) - (2 : Int)))⟩ :: ⟨_, (true && ((decide ((1 : Int) < ((gtD p0.2 y5).2.2.1))) == true)), .rep E_impl_DiagramNode A (gtD p0.2 (((gtD p0.2 y5).2.2.1) - (2 : Int)))⟩ :: ⟨_, (true && ((decide ((1 : Int) < ((gtD p0.2 y5).2.2.1))) == true)), .raw (.bool x32)⟩ :: ⟨_, (true && ((decide ((1 : Int) < ((gtD p0.2 y5).2.2.1))) == true)), .raw (.bool (!x32))⟩ :: ⟨_, true, .raw (.bool x34)⟩ :: ⟨_, true, .raw (.bool x34)⟩ :: ⟨_, (true && (x34 == false)), .raw (.pointer (some ⟨b4_8, 3, none⟩))⟩ :: ⟨_, (true && (x34 == false)), .raw (.int .i64 ((gtD p0.2 y5).2.2.2))⟩ :: ⟨_, (true && (x34 == false)), .raw (.bool (decide ((1 : Int) < ((gtD p0.2 y5).2.2.2))))⟩ :: ⟨_, (true && (x34 == false)), .raw (.bool (decide ((1 : Int) < ((gtD p0.2 y5).2.2.2))))⟩ :: ⟨_, ((true && (x34 == false)) && ((decide ((1 : Int) < ((gtD p0.2 y5).2.2.2))) == true)), .rep E_impl_DiagramNode A (gtD p0.2 y5)⟩ :: ⟨_, ((true && (x34 == false)) && ((decide ((1 : Int) < ((gtD p0.2 y5).2.2.2))) == true)), .raw (.pointer (some ⟨b1_0, 1, none⟩))⟩ :: ⟨_, ((true && (x34 == false)) && ((decide ((1 : Int) < ((gtD p0.2 y5).2.2.2))) == true)), .rep (eSl E_impl_DiagramNode) A p0.2⟩ :: ⟨_, ((true && (x34 == false)) && ((decide ((1 : Int) < ((gtD p0.2 y5).2.2.2))) == true)), .raw (.pointer (some ⟨b4_8, 3, none⟩))⟩ :: ⟨_, ((true && (x34 == false)) && ((decide ((1 : Int) < ((gtD p0.2 y5).2.2.2))) == true)), .raw (.int .i64 ((gtD p0.2 y5).2.2.2))⟩ :: ⟨_, ((true && (x34 == false)) && ((decide ((1 : Int) < ((gtD p0.2 y5).2.2.2))) == true)), .raw (.int .i64 (((gtD p0.2 y5).2.2.2) - (2 : Int)))⟩ :: ⟨_, ((true && (x34 == false)) && ((decide ((1 : Int) < ((gtD p0.2 y5).2.2.2))) == true)), .qtr E_impl_DiagramNode A (gtD p0.2 (((gtD p0.2 y5).2.2.2) - (2 : Int)))⟩ :: ⟨_, ((true && (x34 == false)) && ((decide ((1 : Int) < ((gtD p0.2 y5).2.2.2))) == true)), .rep E_impl_DiagramNode A (gtD p0.2 (((gtD p0.2 y5).2.2.2) - (2 : Int)))⟩ :: ⟨_, ((true && (x34 == false)) && ((decide ((1 : Int) < ((gtD p0.2 y5).2.2.2))) == true)), .raw (.bool x38)⟩ :: ⟨_, ((true && (x34 == false)) && ((decide ((1 : Int) < ((gtD p0.2 y5).2.2.2))) == true)), .raw (.bool (!x38))⟩ :: ⟨_, (true && (x34 == false)), .raw (.bool x40)⟩ :: ⟨_, true, .raw (.bool x42)⟩ :: []) (tl := []) (by kernel_rfl) (by kernel_rfl) (by kernel_rfl) (by kernel_rfl) ?_ ?_
        · exact
            Obls.cons (Obl.plain rfl rfl fun R' w' hw hs hd => by have a0 : R' 4 = (.pointer (some ⟨b4_8, 0, none⟩)) := (hs 4 rfl).trans h4; exact of_fieldAddr_raw a0 ff_92_2 Try.sizeOf3 (by decide) rfl) <|
            Obls.cons (Obl.plain rfl rfl fun R' w' hw hs hd => by have a0 : R' 51 = (.pointer (some ⟨b4_8, 2, none⟩)) := hd 0 _ _ _ rfl rfl rfl rfl rfl; exact OpF.int (of_load_box ((hO.fr hw).ok 1 _ rfl).1 a0 fl_impl_DiagramNode_2 rfl Try.isAgg3 Try.sizeOf3)) <|
            Obls.cons (Obl.plain rfl rfl fun R' w' hw hs hd => by have a0 : R' 52 = .int .i64 ((gtD p0.2 y5).2.2.1) := hd 0 _ _ _ rfl rfl rfl rfl rfl; exact of_gtr a0 rfl) <|
            Obls.cons (Obl.plain rfl rfl fun R' w' hw hs hd => by have a0 : R' 53 = .bool (decide ((1 : Int) < ((gtD p0.2 y5).2.2.1))) := hd 0 _ _ _ rfl rfl rfl rfl rfl; exact of_move a0) <|
            Obls.cons (Obl.grd 3 true _ _ _ rfl rfl rfl rfl rfl (by kernel_rfl) fun hg R' w' hw hs hd => by have a0 : R' 4 = (.pointer (some ⟨b4_8, 0, none⟩)) := (hs 4 rfl).trans h4; exact (of_load_box ((hO.fr hw).ok 1 _ rfl).1 a0 (Fld.id _) rfl Try.isAgg92 Try.sizeOf92)) <|
            Obls.cons (Obl.grd 3 true _ _ _ rfl rfl rfl rfl rfl (by kernel_rfl) fun hg R' w' hw hs hd => by have a0 : R' 1 = (.pointer (some ⟨b1_0, 0, none⟩)) := (hs 1 rfl).trans h1; exact of_fieldAddr_raw a0 ff_43_1 Try.sizeOf41 (by decide) rfl) <|
            Obls.cons (Obl.grd 3 true _ _ _ rfl rfl rfl rfl rfl (by kernel_rfl) fun hg R' w' hw hs hd => by have a0 : R' 56 = (.pointer (some ⟨b1_0, 1, none⟩)) := hd 0 _ _ _ rfl rfl rfl rfl hg; exact (of_load_box ((hO.fr hw).ok 0 _ rfl).1 a0 fl_impl_Diagram_1 rfl Try.isAgg41 Try.sizeOf41)) <|
            Obls.cons (Obl.grd 3 true _ _ _ rfl rfl rfl rfl rfl (by kernel_rfl) fun hg R' w' hw hs hd => by have a0 : R' 4 = (.pointer (some ⟨b4_8, 0, none⟩)) := (hs 4 rfl).trans h4; exact of_fieldAddr_raw a0 ff_92_2 Try.sizeOf3 (by decide) rfl) <|
            Obls.cons (Obl.grd 3 true _ _ _ rfl rfl rfl rfl rfl (by kernel_rfl) fun hg R' w' hw hs hd => by have a0 : R' 58 = (.pointer (some ⟨b4_8, 2, none⟩)) := hd 0 _ _ _ rfl rfl rfl rfl hg; exact OpF.int (of_load_box ((hO.fr hw).ok 1 _ rfl).1 a0 fl_impl_DiagramNode_2 rfl Try.isAgg3 Try.sizeOf3)) <|
            Obls.cons (Obl.grd 3 true _ _ _ rfl rfl rfl rfl rfl (by kernel_rfl) fun hg R' w' hw hs hd => by have a0 : R' 59 = .int .i64 ((gtD p0.2 y5).2.2.1) := hd 0 _ _ _ rfl rfl rfl rfl hg; exact of_sub a0 rfl (gd e30 hg)) <|
            Obls.cons (Obl.grd 3 true _ _ _ rfl rfl rfl rfl rfl (by kernel_rfl) fun hg R' w' hw hs hd => by have a0 : Rep (eSl E_impl_DiagramNode) A w' (R' 57) p0.2 := hd 0 _ _ _ rfl rfl rfl rfl hg; have a1 : R' 60 = .int .i64 (((gtD p0.2 y5).2.2.1) - (2 : Int)) := hd 1 _ _ _ rfl rfl rfl rfl hg; exact of_indexAddr a0 a1 Try.underlying41 Try.sizeOf92 (gd e31 hg)) <|
            Obls.cons (Obl.grd 3 true _ _ _ rfl rfl rfl rfl rfl (by kernel_rfl) fun hg R' w' hw hs hd => by have a0 : QRep E_impl_DiagramNode A w' (R' 61) (gtD p0.2 (((gtD p0.2 y5).2.2.1) - (2 : Int))) := hd 0 _ _ _ rfl rfl rfl rfl hg; exact (of_load a0.ptr Try.isAgg92 Try.sizeOf92)) <|
            Obls.cons (Obl.grd 3 true _ _ _ rfl rfl rfl rfl rfl (by kernel_rfl) fun hg R' w' hw hs hd => by have a0 : Rep E_impl_DiagramNode A w' (R' 55) (gtD p0.2 y5) := hd 0 _ _ _ rfl rfl rfl rfl hg; have a1 : Rep E_impl_DiagramNode A w' (R' 62) (gtD p0.2 (((gtD p0.2 y5).2.2.1) - (2 : Int))) := hd 1 _ _ _ rfl rfl rfl rfl hg; exact of_call Try.call71 (M_spec_l15Before_ok (q33 hg) (hA.fr hw.size) a0 a1)) <|
            Obls.cons (Obl.grd 3 true _ _ _ rfl rfl rfl rfl rfl (by kernel_rfl) fun hg R' w' hw hs hd => by have a0 : R' 63 = .bool x32 := hd 0 _ _ _ rfl rfl rfl rfl hg; exact of_not a0) <|
            Obls.cons (Obl.plain rfl rfl fun R' w' hw hs hd => by have a0 : R' 54 = .bool (decide ((1 : Int) < ((gtD p0.2 y5).2.2.1))) := hd 0 _ _ _ rfl rfl rfl rfl rfl; exact of_pick (decide ((1 : Int) < ((gtD p0.2 y5).2.2.1))) a0 (fun hc => by have a1 : R' 64 = .bool (!x32) := hd 1 _ _ _ rfl rfl rfl rfl (g_and rfl (beq_of hc)); show _ = Value.bool x34; rw [q35, hc]; exact a1) (fun hc => by show _ = Value.bool x34; rw [q35, hc]; exact rfl)) <|
            Obls.cons (Obl.plain rfl rfl fun R' w' hw hs hd => by have a0 : R' 65 = .bool x34 := hd 0 _ _ _ rfl rfl rfl rfl rfl; exact of_move a0) <|
            Obls.cons (Obl.grd 15 false _ _ _ rfl rfl rfl rfl rfl (by kernel_rfl) fun hg R' w' hw hs hd => by have a0 : R' 4 = (.pointer (some ⟨b4_8, 0, none⟩)) := (hs 4 rfl).trans h4; exact of_fieldAddr_raw a0 ff_92_3 Try.sizeOf3 (by decide) rfl) <|
            Obls.cons (Obl.grd 15 false _ _ _ rfl rfl rfl rfl rfl (by kernel_rfl) fun hg R' w' hw hs hd => by have a0 : R' 67 = (.pointer (some ⟨b4_8, 3, none⟩)) := hd 0 _ _ _ rfl rfl rfl rfl hg; exact OpF.int (of_load_box ((hO.fr hw).ok 1 _ rfl).1 a0 fl_impl_DiagramNode_3 rfl Try.isAgg3 Try.sizeOf3)) <|
            Obls.cons (Obl.grd 15 false _ _ _ rfl rfl rfl rfl rfl (by kernel_rfl) fun hg R' w' hw hs hd => by have a0 : R' 68 = .int .i64 ((gtD p0.2 y5).2.2.2) := hd 0 _ _ _ rfl rfl rfl rfl hg; exact of_gtr a0 rfl) <|
            Obls.cons (Obl.grd 15 false _ _ _ rfl rfl rfl rfl rfl (by kernel_rfl) fun hg R' w' hw hs hd => by have a0 : R' 69 = .bool (decide ((1 : Int) < ((gtD p0.2 y5).2.2.2))) := hd 0 _ _ _ rfl rfl rfl rfl hg; exact of_move a0) <|
            Obls.cons (Obl.grd 19 true _ _ _ rfl rfl rfl rfl rfl (by kernel_rfl) fun hg R' w' hw hs hd => by have a0 : R' 4 = (.pointer (some ⟨b4_8, 0, none⟩)) := (hs 4 rfl).trans h4; exact (of_load_box ((hO.fr hw).ok 1 _ rfl).1 a0 (Fld.id _) rfl Try.isAgg92 Try.sizeOf92)) <|
            Obls.cons (Obl.grd 19 true _ _ _ rfl rfl rfl rfl rfl (by kernel_rfl) fun hg R' w' hw hs hd => by have a0 : R' 1 = (.pointer (some ⟨b1_0, 0, none⟩)) := (hs 1 rfl).trans h1; exact of_fieldAddr_raw a0 ff_43_1 Try.sizeOf41 (by decide) rfl) <|
            Obls.cons (Obl.grd 19 true _ _ _ rfl rfl rfl rfl rfl (by kernel_rfl) fun hg R' w' hw hs hd => by have a0 : R' 72 = (.pointer (some ⟨b1_0, 1, none⟩)) := hd 0 _ _ _ rfl rfl rfl rfl hg; exact (of_load_box ((hO.fr hw).ok 0 _ rfl).1 a0 fl_impl_Diagram_1 rfl Try.isAgg41 Try.sizeOf41)) <|
            Obls.cons (Obl.grd 19 true _ _ _ rfl rfl rfl rfl rfl (by kernel_rfl) fun hg R' w' hw hs hd => by have a0 : R' 4 = (.pointer (some ⟨b4_8, 0, none⟩)) := (hs 4 rfl).trans h4; exact of_fieldAddr_raw a0 ff_92_3 Try.sizeOf3 (by decide) rfl) <|
            Obls.cons (Obl.grd 19 true _ _ _ rfl rfl rfl rfl rfl (by kernel_rfl) fun hg R' w' hw hs hd => by have a0 : R' 74 = (.pointer (some ⟨b4_8, 3, none⟩)) := hd 0 _ _ _ rfl rfl rfl rfl hg; exact OpF.int (of_load_box ((hO.fr hw).ok 1 _ rfl).1 a0 fl_impl_DiagramNode_3 rfl Try.isAgg3 Try.sizeOf3)) <|
            Obls.cons (Obl.grd 19 true _ _ _ rfl rfl rfl rfl rfl (by kernel_rfl) fun hg R' w' hw hs hd => by have a0 : R' 75 = .int .i64 ((gtD p0.2 y5).2.2.2) := hd 0 _ _ _ rfl rfl rfl rfl hg; exact of_sub a0 rfl (gd e36 hg)) <|
            Obls.cons (Obl.grd 19 true _ _ _ rfl rfl rfl rfl rfl (by kernel_rfl) fun hg R' w' hw hs hd => by have a0 : Rep (eSl E_impl_DiagramNode) A w' (R' 73) p0.2 := hd 0 _ _ _ rfl rfl rfl rfl hg; have a1 : R' 76 = .int .i64 (((gtD p0.2 y5).2.2.2) - (2 : Int)) := hd 1 _ _ _ rfl rfl rfl rfl hg; exact of_indexAddr a0 a1 Try.underlying41 Try.sizeOf92 (gd e37 hg)) <|
            Obls.cons (Obl.grd 19 true _ _ _ rfl rfl rfl rfl rfl (by kernel_rfl) fun hg R' w' hw hs hd => by have a0 : QRep E_impl_DiagramNode A w' (R' 77) (gtD p0.2 (((gtD p0.2 y5).2.2.2) - (2 : Int))) := hd 0 _ _ _ rfl rfl rfl rfl hg; exact (of_load a0.ptr Try.isAgg92 Try.sizeOf92)) <|
            Obls.cons (Obl.grd 19 true _ _ _ rfl rfl rfl rfl rfl (by kernel_rfl) fun hg R' w' hw hs hd => by have a0 : Rep E_impl_DiagramNode A w' (R' 71) (gtD p0.2 y5) := hd 0 _ _ _ rfl rfl rfl rfl hg; have a1 : Rep E_impl_DiagramNode A w' (R' 78) (gtD p0.2 (((gtD p0.2 y5).2.2.2) - (2 : Int))) := hd 1 _ _ _ rfl rfl rfl rfl hg; exact of_call Try.call71 (M_spec_l15Before_ok (q39 hg) (hA.fr hw.size) a0 a1)) <|
            Obls.cons (Obl.grd 19 true _ _ _ rfl rfl rfl rfl rfl (by kernel_rfl) fun hg R' w' hw hs hd => by have a0 : R' 79 = .bool x38 := hd 0 _ _ _ rfl rfl rfl rfl hg; exact of_not a0) <|
            Obls.cons (Obl.grd 15 false _ _ _ rfl rfl rfl rfl rfl (by kernel_rfl) fun hg R' w' hw hs hd => by have a0 : R' 70 = .bool (decide ((1 : Int) < ((gtD p0.2 y5).2.2.2))) := hd 0 _ _ _ rfl rfl rfl rfl hg; exact of_pick (decide ((1 : Int) < ((gtD p0.2 y5).2.2.2))) a0 (fun hc => by have a1 : R' 80 = .bool (!x38) := hd 1 _ _ _ rfl rfl rfl rfl (g_and hg (beq_of hc)); show _ = Value.bool x40; rw [q41, hc]; exact a1) (fun hc => by show _ = Value.bool x40; rw [q41, hc]; exact rfl)) <|
            Obls.cons (Obl.plain rfl rfl fun R' w' hw hs hd => by have a0 : R' 66 = .bool x34 := hd 0 _ _ _ rfl rfl rfl rfl rfl; exact of_pick x34 a0 (fun hc => by show _ = Value.bool x42; rw [q43, hc]; exact rfl) (fun hc => by have a2 : R' 81 = .bool x40 := hd 1 _ _ _ rfl rfl rfl rfl (g_and rfl (beq_of hc)); show _ = Value.bool x42; rw [q43, hc]; exact a2)) <|
            Obls.nil
        intro R w hw hs hF'
        replace h1 : R 1 = (.pointer (some ⟨b1_0, 0, none⟩)) := (hs 1 rfl).trans h1
        replace h3 : R 3 = .int .i64 y5 := (hs 3 rfl).trans h3
        replace h4 : R 4 = (.pointer (some ⟨b4_8, 0, none⟩)) := (hs 4 rfl).trans h4
        have h82 : R 82 = .bool x42 := hF' 31 _ _ rfl rfl rfl
        replace hO := hO.fr hw
        replace hA := hA.fr hw.size
        replace hF := hF.trans hw
        clear hs hF' hw
        refine seqR_nil ?_
        refine HT.cond x42 h82 (fun c44 => ?_) (fun c44 => ?_)
        · have hr := cnd_t c44 hr
          refine HT.seq ?_
          refine HT.text (l := ⟨_, true, .raw (.bool false)⟩ :: []) (tl := []) (by kernel_rfl) (by kernel_rfl) (by kernel_rfl) ?_ ?_
          · exact
              Obls.cons (Obl.plain rfl rfl fun R' w' hw hs hd => by exact of_assign rfl) <|
              Obls.nil
          intro R w hw hs hF'
          have h2 : R 2 = .bool false := hF' 0 _ _ rfl rfl rfl
          replace hO := hO.fr hw
          replace hO : IniOK [] A w := hO.sub [] trivial
          replace hA := hA.fr hw.size
          replace hF := hF.trans hw
          clear hs hF' hw
          refine seqR_nil ?_
          refine HT.ret ?_
          obtain rfl := Option.some.inj hr
          have hr := hr0
          replace hr : some _ = some _ := hr
          obtain rfl := Option.some.inj hr
          exact ⟨.inr rfl, [R 2], ⟨rfl, trivial⟩, h2, hF⟩
        · have hr := cnd_f c44 hr
          refine HT.skip ?_
          refine HT.seq ?_
          refine HT.text (l := ⟨_, true, .raw (.int .i64 (0 : Int))⟩ :: []) (tl := []) (by kernel_rfl) (by kernel_rfl) (by kernel_rfl) ?_ ?_
          · exact
              Obls.cons (Obl.plain rfl rfl fun R' w' hw hs hd => by exact of_assign rfl) <|
              Obls.nil
          intro R w hw hs hF'
          replace h1 : R 1 = (.pointer (some ⟨b1_0, 0, none⟩)) := (hs 1 rfl).trans h1
          replace h3 : R 3 = .int .i64 y5 := (hs 3 rfl).trans h3
          replace h4 : R 4 = (.pointer (some ⟨b4_8, 0, none⟩)) := (hs 4 rfl).trans h4
          have h5 : R 5 = .int .i64 (0 : Int) := hF' 0 _ _ rfl rfl rfl
          replace hO := hO.fr hw
          replace hA := hA.fr hw.size
          replace hF := hF.trans hw
          clear hs hF' hw
          refine seqR_nil ?_
          obtain ⟨rl45, q46, hr⟩ := cl_some hr
          replace q46 := q46 rfl
          refine HT.cut0 (fun R w => ∃ A : Av, ∃ (s47 : Unit), rl45 = Ex.go s47 ∧ AvOK A w ∧ Fr w0 w ∧ (∀ b o, A0 b o → A b o) ∧ IniOK [((.pointer (some ⟨b1_0, 0, none⟩)), .box w0.heap.size 43 E_impl_Diagram p0)] A w ∧ R 1 = (.pointer (some ⟨b1_0, 0, none⟩)) ∧ R 3 = .int .i64 y5) ?_ ?_
          · refine HT.block ?_
            refine HT.loop (fun k R w => ∃ A : Av, ∃ (y48 : Int), M_spec_IsValidDiagram_L1 fu p0 y5 k y48 = some rl45 ∧ AvOK A w ∧ Fr w0 w ∧ (∀ b o, A0 b o → A b o) ∧ IniOK [((.pointer (some ⟨b1_0, 0, none⟩)), .box w0.heap.size 43 E_impl_Diagram p0), ((.pointer (some ⟨b4_8, 0, none⟩)), .box w0.heap.size 92 E_impl_DiagramNode (gtD p0.2 y5))] A w ∧ R 1 = (.pointer (some ⟨b1_0, 0, none⟩)) ∧ R 3 = .int .i64 y5 ∧ R 4 = (.pointer (some ⟨b4_8, 0, none⟩)) ∧ R 5 = .int .i64 y48) fu ⟨_, _, q46, hA, hF, hAA, hO, h1, h3, h4, h5⟩ ?_
            have hr1 := hr; clear hr q46
            rintro k R w ⟨A, y48, hr, hA, hF, hAA, hO, h1, h3, h4, h5⟩
            rcases k with _ | k
            · cases (show none = some _ from hr)
            rw [M_spec_IsValidDiagram_L1] at hr
            refine HT.seq ?_
            refine HT.seq ?_
            refine HT.text (l := ⟨_, true, .raw (.int .i64 y48)⟩ :: ⟨_, true, .raw (.int .i64 y5)⟩ :: ⟨_, true, .raw (.bool (decide (y48 < y5)))⟩ :: []) (tl := []) (by kernel_rfl) (by kernel_rfl) (by kernel_rfl) ?_ ?_
            · exact
                Obls.cons (Obl.plain rfl rfl fun R' w' hw hs hd => by have a0 : R' 5 = .int .i64 y48 := (hs 5 rfl).trans h5; exact of_move a0) <|
                Obls.cons (Obl.plain rfl rfl fun R' w' hw hs hd => by have a0 : R' 3 = .int .i64 y5 := (hs 3 rfl).trans h3; exact of_move a0) <|
                Obls.cons (Obl.plain rfl rfl fun R' w' hw hs hd => by have a0 : R' 83 = .int .i64 y48 := hd 0 _ _ _ rfl rfl rfl rfl rfl; have a1 : R' 84 = .int .i64 y5 := hd 1 _ _ _ rfl rfl rfl rfl rfl; exact of_lss a0 a1) <|
                Obls.nil
            intro R w hw hs hF'
            replace h1 : R 1 = (.pointer (some ⟨b1_0, 0, none⟩)) := (hs 1 rfl).trans h1
            replace h3 : R 3 = .int .i64 y5 := (hs 3 rfl).trans h3
            replace h4 : R 4 = (.pointer (some ⟨b4_8, 0, none⟩)) := (hs 4 rfl).trans h4
            replace h5 : R 5 = .int .i64 y48 := (hs 5 rfl).trans h5
            have h85 : R 85 = .bool (decide (y48 < y5)) := hF' 2 _ _ rfl rfl rfl
            replace hO := hO.fr hw
            replace hA := hA.fr hw.size
            replace hF := hF.trans hw
            clear hs hF' hw
            refine seqR_nil ?_
            refine HT.cond (decide (y48 < y5)) h85 (fun c49 => ?_) (fun c49 => ?_)
            · have hr := cnd_t c49 hr
              refine HT.skip ?_
              refine HT.seq ?_
              refine HT.block ?_
              refine HT.seq ?_
              obtain ⟨e50, hr⟩ := ck_some hr
              refine HT.draw (by kernel_rfl) (l := ⟨_, true, .raw (.pointer (some ⟨b1_0, 1, none⟩))⟩ :: ⟨_, true, .rep (eSl E_impl_DiagramNode) A p0.2⟩ :: ⟨_, true, .raw (.int .i64 y48)⟩ :: ⟨_, true, .qtr E_impl_DiagramNode A (gtD p0.2 y48)⟩ :: ⟨_, true, .rep E_impl_DiagramNode A (gtD p0.2 y48)⟩ :: ⟨_, true, .rep E_impl_DiagramNode A (gtD p0.2 y5)⟩ :: ⟨_, true, .raw (.bool ((gtD p0.2 y48) == (gtD p0.2 y5)))⟩ :: []) (tl := []) (by kernel_rfl) (by kernel_rfl) (by kernel_rfl) (by kernel_rfl) ?_ ?_
              · exact
                  Obls.cons (Obl.plain rfl rfl fun R' w' hw hs hd => by have a0 : R' 1 = (.pointer (some ⟨b1_0, 0, none⟩)) := (hs 1 rfl).trans h1; exact of_fieldAddr_raw a0 ff_43_1 Try.sizeOf41 (by decide) rfl) <|
                  Obls.cons (Obl.plain rfl rfl fun R' w' hw hs hd => by have a0 : R' 88 = (.pointer (some ⟨b1_0, 1, none⟩)) := hd 0 _ _ _ rfl rfl rfl rfl rfl; exact (of_load_box ((hO.fr hw).ok 0 _ rfl).1 a0 fl_impl_Diagram_1 rfl Try.isAgg41 Try.sizeOf41)) <|
                  Obls.cons (Obl.plain rfl rfl fun R' w' hw hs hd => by have a0 : R' 5 = .int .i64 y48 := (hs 5 rfl).trans h5; exact of_move a0) <|
                  Obls.cons (Obl.plain rfl rfl fun R' w' hw hs hd => by have a0 : Rep (eSl E_impl_DiagramNode) A w' (R' 89) p0.2 := hd 0 _ _ _ rfl rfl rfl rfl rfl; have a1 : R' 90 = .int .i64 y48 := hd 1 _ _ _ rfl rfl rfl rfl rfl; exact of_indexAddr a0 a1 Try.underlying41 Try.sizeOf92 e50) <|
                  Obls.cons (Obl.plain rfl rfl fun R' w' hw hs hd => by have a0 : QRep E_impl_DiagramNode A w' (R' 91) (gtD p0.2 y48) := hd 0 _ _ _ rfl rfl rfl rfl rfl; exact (of_load a0.ptr Try.isAgg92 Try.sizeOf92)) <|
                  Obls.cons (Obl.plain rfl rfl fun R' w' hw hs hd => by have a0 : R' 4 = (.pointer (some ⟨b4_8, 0, none⟩)) := (hs 4 rfl).trans h4; exact (of_load_box ((hO.fr hw).ok 1 _ rfl).1 a0 (Fld.id _) rfl Try.isAgg92 Try.sizeOf92)) <|
                  Obls.cons (Obl.plain rfl rfl fun R' w' hw hs hd => by have a0 : Rep E_impl_DiagramNode A w' (R' 92) (gtD p0.2 y48) := hd 0 _ _ _ rfl rfl rfl rfl rfl; have a1 : Rep E_impl_DiagramNode A w' (R' 93) (gtD p0.2 y5) := hd 1 _ _ _ rfl rfl rfl rfl rfl; exact of_struct_eql Try.eqGuardType92 (val_impl_DiagramNode a0) (val_impl_DiagramNode a1) (eql_92 (gtD p0.2 y48) (gtD p0.2 y5) _)) <|
                  Obls.nil
              intro R w hw hs hF'
              replace h1 : R 1 = (.pointer (some ⟨b1_0, 0, none⟩)) := (hs 1 rfl).trans h1
              replace h3 : R 3 = .int .i64 y5 := (hs 3 rfl).trans h3
              replace h4 : R 4 = (.pointer (some ⟨b4_8, 0, none⟩)) := (hs 4 rfl).trans h4
              replace h5 : R 5 = .int .i64 y48 := (hs 5 rfl).trans h5
              have h94 : R 94 = .bool ((gtD p0.2 y48) == (gtD p0.2 y5)) := hF' 6 _ _ rfl rfl rfl
              replace hO := hO.fr hw
              replace hA := hA.fr hw.size
              replace hF := hF.trans hw
              clear hs hF' hw
              refine seqR_nil ?_
              refine HT.cond ((gtD p0.2 y48) == (gtD p0.2 y5)) h94 (fun c51 => ?_) (fun c51 => ?_)
              · have hr := cnd_t c51 hr
                refine HT.seq ?_
                refine HT.text (l := ⟨_, true, .raw (.bool false)⟩ :: []) (tl := []) (by kernel_rfl) (by kernel_rfl) (by kernel_rfl) ?_ ?_
                · exact
                    Obls.cons (Obl.plain rfl rfl fun R' w' hw hs hd => by exact of_assign rfl) <|
                    Obls.nil
                intro R w hw hs hF'
                have h2 : R 2 = .bool false := hF' 0 _ _ rfl rfl rfl
                replace hO := hO.fr hw
                replace hO : IniOK [] A w := hO.sub [] trivial
                replace hA := hA.fr hw.size
                replace hF := hF.trans hw
                clear hs hF' hw
                refine seqR_nil ?_
                refine HT.ret ?_
                obtain rfl := Option.some.inj hr
                have hr := hr1
                replace hr : some _ = some _ := hr
                obtain rfl := Option.some.inj hr
                have hr := hr0
                replace hr : some _ = some _ := hr
                obtain rfl := Option.some.inj hr
                exact ⟨.inr rfl, [R 2], ⟨rfl, trivial⟩, h2, hF⟩
              · have hr := cnd_f c51 hr
                refine HT.skip ?_
                obtain ⟨e52, hr⟩ := ck_some hr
                refine HT.text (l := ⟨_, true, .raw (.int .i64 y48)⟩ :: ⟨_, true, .raw (.int .i64 (y48 + (1 : Int)))⟩ :: ⟨_, true, .raw (.int .i64 (y48 + (1 : Int)))⟩ :: []) (tl := []) (by kernel_rfl) (by kernel_rfl) (by kernel_rfl) ?_ ?_
                · exact
                    Obls.cons (Obl.plain rfl rfl fun R' w' hw hs hd => by have a0 : R' 5 = .int .i64 y48 := (hs 5 rfl).trans h5; exact of_move a0) <|
                    Obls.cons (Obl.plain rfl rfl fun R' w' hw hs hd => by have a0 : R' 86 = .int .i64 y48 := hd 0 _ _ _ rfl rfl rfl rfl rfl; exact of_add a0 rfl e52) <|
                    Obls.cons (Obl.plain rfl rfl fun R' w' hw hs hd => by have a0 : R' 87 = .int .i64 (y48 + (1 : Int)) := hd 0 _ _ _ rfl rfl rfl rfl rfl; exact of_assign a0) <|
                    Obls.nil
                intro R w hw hs hF'
                replace h1 : R 1 = (.pointer (some ⟨b1_0, 0, none⟩)) := (hs 1 rfl).trans h1
                replace h3 : R 3 = .int .i64 y5 := (hs 3 rfl).trans h3
                replace h4 : R 4 = (.pointer (some ⟨b4_8, 0, none⟩)) := (hs 4 rfl).trans h4
                have h5 : R 5 = .int .i64 (y48 + (1 : Int)) := hF' 2 _ _ rfl rfl rfl
                replace hO := hO.fr hw
                replace hA := hA.fr hw.size
                replace hF := hF.trans hw
                clear hs hF' hw
                refine seqR_nil ?_
                exact Exists.intro k (And.intro (Nat.lt_succ_self k) ⟨_, _, hr, hA, hF, hAA, hO, h1, h3, h4, h5⟩)
            · have hr := cnd_f c49 hr
              refine HT.exit ?_
              obtain rfl := Option.some.inj hr
              replace hO : IniOK [((.pointer (some ⟨b1_0, 0, none⟩)), .box w0.heap.size 43 E_impl_Diagram p0)] A w := hO.sub [(0, (.pointer (some ⟨b1_0, 0, none⟩)), .box w0.heap.size 43 E_impl_Diagram p0)] ⟨rfl, rfl, trivial⟩
              exact Exists.intro _ ⟨_, rfl, hA, hF, hAA, hO, h1, h3⟩
          rintro R w ⟨A, s47, rfl, hA, hF, hAA, hO, h1, h3⟩
          have hr := exM_go hr
          obtain ⟨e53, hr⟩ := ck_some hr
          refine HT.text (l := ⟨_, true, .raw (.int .i64 y5)⟩ :: ⟨_, true, .raw (.int .i64 (y5 + (1 : Int)))⟩ :: ⟨_, true, .raw (.int .i64 (y5 + (1 : Int)))⟩ :: []) (tl := []) (by kernel_rfl) (by kernel_rfl) (by kernel_rfl) ?_ ?_
          · exact
              Obls.cons (Obl.plain rfl rfl fun R' w' hw hs hd => by have a0 : R' 3 = .int .i64 y5 := (hs 3 rfl).trans h3; exact of_move a0) <|
              Obls.cons (Obl.plain rfl rfl fun R' w' hw hs hd => by have a0 : R' 11 = .int .i64 y5 := hd 0 _ _ _ rfl rfl rfl rfl rfl; exact of_add a0 rfl e53) <|
              Obls.cons (Obl.plain rfl rfl fun R' w' hw hs hd => by have a0 : R' 12 = .int .i64 (y5 + (1 : Int)) := hd 0 _ _ _ rfl rfl rfl rfl rfl; exact of_assign a0) <|
              Obls.nil
          intro R w hw hs hF'
          replace h1 : R 1 = (.pointer (some ⟨b1_0, 0, none⟩)) := (hs 1 rfl).trans h1
          have h3 : R 3 = .int .i64 (y5 + (1 : Int)) := hF' 2 _ _ rfl rfl rfl
          replace hO := hO.fr hw
          replace hA := hA.fr hw.size
          replace hF := hF.trans hw
          clear hs hF' hw
          refine seqR_nil ?_
          exact Exists.intro k (And.intro (Nat.lt_succ_self k) ⟨_, _, hr, hA, hF, hAA, hO, h1, h3⟩)
    · have hr := cnd_f c6 hr
      refine HT.exit ?_
      obtain rfl := Option.some.inj hr
      exact Exists.intro _ ⟨_, rfl, hA, hF, hAA, hO, h1⟩
  rintro R w ⟨A, s4, rfl, hA, hF, hAA, hO, h1⟩
  have hr := exM_go hr
  refine HT.seq ?_
  obtain ⟨e54, hr⟩ := ck_some hr
  obtain ⟨x55, q56, hr⟩ := cl_some hr
  obtain ⟨x57, q58, hr⟩ := bd_some hr
  refine HT.text (l := ⟨_, true, .raw (.pointer (some ⟨b1_0, 0, none⟩))⟩ :: ⟨_, true, .raw (.int .i64 p0.1)⟩ :: ⟨_, true, .raw (.pointer (some ⟨b1_0, 1, none⟩))⟩ :: ⟨_, true, .rep (eSl E_impl_DiagramNode) A p0.2⟩ :: ⟨_, true, .raw (.int .i64 (p0.2.length : Int))⟩ :: ⟨_, true, .raw (.int .i64 ((p0.2.length : Int) + (1 : Int)))⟩ :: ⟨_, true, .raw (.bool x55)⟩ :: ⟨_, true, .raw (.bool x55)⟩ :: ⟨_, (true && (x55 == true)), .raw (.pointer (some ⟨b1_0, 1, none⟩))⟩ :: ⟨_, (true && (x55 == true)), .rep (eSl E_impl_DiagramNode) A p0.2⟩ :: ⟨_, (true && (x55 == true)), .raw (.int .i64 (p0.2.length : Int))⟩ :: ⟨_, (true && (x55 == true)), .raw (.bool (decide ((p0.2.length : Int) ≤ (200 : Int))))⟩ :: ⟨_, true, .raw (.bool x57)⟩ :: ⟨_, true, .raw (.bool x57)⟩ :: []) (tl := []) (by kernel_rfl) (by kernel_rfl) (by kernel_rfl) ?_ ?_
  · exact
      Obls.cons (Obl.plain rfl rfl fun R' w' hw hs hd => by have a0 : R' 1 = (.pointer (some ⟨b1_0, 0, none⟩)) := (hs 1 rfl).trans h1; exact of_fieldAddr_raw a0 ff_43_0 Try.sizeOf3 (by decide) rfl) <|
      Obls.cons (Obl.plain rfl rfl fun R' w' hw hs hd => by have a0 : R' 95 = (.pointer (some ⟨b1_0, 0, none⟩)) := hd 0 _ _ _ rfl rfl rfl rfl rfl; exact OpF.int (of_load_box ((hO.fr hw).ok 0 _ rfl).1 a0 fl_impl_Diagram_0 rfl Try.isAgg3 Try.sizeOf3)) <|
      Obls.cons (Obl.plain rfl rfl fun R' w' hw hs hd => by have a0 : R' 1 = (.pointer (some ⟨b1_0, 0, none⟩)) := (hs 1 rfl).trans h1; exact of_fieldAddr_raw a0 ff_43_1 Try.sizeOf41 (by decide) rfl) <|
      Obls.cons (Obl.plain rfl rfl fun R' w' hw hs hd => by have a0 : R' 97 = (.pointer (some ⟨b1_0, 1, none⟩)) := hd 0 _ _ _ rfl rfl rfl rfl rfl; exact (of_load_box ((hO.fr hw).ok 0 _ rfl).1 a0 fl_impl_Diagram_1 rfl Try.isAgg41 Try.sizeOf41)) <|
      Obls.cons (Obl.plain rfl rfl fun R' w' hw hs hd => by have a0 : Rep (eSl E_impl_DiagramNode) A w' (R' 98) p0.2 := hd 0 _ _ _ rfl rfl rfl rfl rfl; exact of_len_sl (aT := #[]) a0 Try.underlying41) <|
      Obls.cons (Obl.plain rfl rfl fun R' w' hw hs hd => by have a0 : R' 99 = .int .i64 (p0.2.length : Int) := hd 0 _ _ _ rfl rfl rfl rfl rfl; exact of_add a0 rfl e54) <|
      Obls.cons (Obl.plain rfl rfl fun R' w' hw hs hd => by have a0 : R' 96 = .int .i64 p0.1 := hd 0 _ _ _ rfl rfl rfl rfl rfl; have a2 : R' 100 = .int .i64 ((p0.2.length : Int) + (1 : Int)) := hd 1 _ _ _ rfl rfl rfl rfl rfl; exact of_call Try.call70 (M_spec_l1In_ok (q56 rfl) (hA.fr hw.size) a0 rfl a2)) <|
      Obls.cons (Obl.plain rfl rfl fun R' w' hw hs hd => by have a0 : R' 101 = .bool x55 := hd 0 _ _ _ rfl rfl rfl rfl rfl; exact of_move a0) <|
      Obls.cons (Obl.grd 7 true _ _ _ rfl rfl rfl rfl rfl (by kernel_rfl) fun hg R' w' hw hs hd => by have a0 : R' 1 = (.pointer (some ⟨b1_0, 0, none⟩)) := (hs 1 rfl).trans h1; exact of_fieldAddr_raw a0 ff_43_1 Try.sizeOf41 (by decide) rfl) <|
      Obls.cons (Obl.grd 7 true _ _ _ rfl rfl rfl rfl rfl (by kernel_rfl) fun hg R' w' hw hs hd => by have a0 : R' 103 = (.pointer (some ⟨b1_0, 1, none⟩)) := hd 0 _ _ _ rfl rfl rfl rfl hg; exact (of_load_box ((hO.fr hw).ok 0 _ rfl).1 a0 fl_impl_Diagram_1 rfl Try.isAgg41 Try.sizeOf41)) <|
      Obls.cons (Obl.grd 7 true _ _ _ rfl rfl rfl rfl rfl (by kernel_rfl) fun hg R' w' hw hs hd => by have a0 : Rep (eSl E_impl_DiagramNode) A w' (R' 104) p0.2 := hd 0 _ _ _ rfl rfl rfl rfl hg; exact of_len_sl (aT := #[]) a0 Try.underlying41) <|
      Obls.cons (Obl.grd 7 true _ _ _ rfl rfl rfl rfl rfl (by kernel_rfl) fun hg R' w' hw hs hd => by have a0 : R' 105 = .int .i64 (p0.2.length : Int) := hd 0 _ _ _ rfl rfl rfl rfl hg; exact of_leq a0 rfl) <|
      Obls.cons (Obl.plain rfl rfl fun R' w' hw hs hd => by have a0 : R' 102 = .bool x55 := hd 0 _ _ _ rfl rfl rfl rfl rfl; exact of_pick x55 a0 (fun hc => by have a1 : R' 106 = .bool (decide ((p0.2.length : Int) ≤ (200 : Int))) := hd 1 _ _ _ rfl rfl rfl rfl (g_and rfl (beq_of hc)); show _ = Value.bool x57; rw [q58, hc]; exact a1) (fun hc => by show _ = Value.bool x57; rw [q58, hc]; exact rfl)) <|
      Obls.cons (Obl.plain rfl rfl fun R' w' hw hs hd => by have a0 : R' 107 = .bool x57 := hd 0 _ _ _ rfl rfl rfl rfl rfl; exact of_assign a0) <|
      Obls.nil
  intro R w hw hs hF'
  have h2 : R 2 = .bool x57 := hF' 13 _ _ rfl rfl rfl
  replace hO := hO.fr hw
  replace hO : IniOK [] A w := hO.sub [] trivial
  replace hA := hA.fr hw.size
  replace hF := hF.trans hw
  clear hs hF' hw
  refine seqR_nil ?_
  refine HT.ret ?_
  obtain rfl := Option.some.inj hr
  exact ⟨.inr rfl, [R 2], ⟨rfl, trivial⟩, h2, hF⟩
def M_impl_within (fu : Nat) (p0 : Int) (p1 : Int) (p2 : Int) : Option Bool :=
  bd ((decide (p1 ≤ p0)) && (decide (p0 ≤ p2))) fun x1 =>
  some x1
set_option maxRecDepth 100000 in
set_option maxHeartbeats 4000000 in
theorem M_impl_within_ok {fu : Nat} {A : Av} {p0 : Int} {p1 : Int} {p2 : Int} {r : Bool} (hr : M_impl_within fu p0 p1 p2 = some r) {w : World} {v0 : Value} {v1 : Value} {v2 : Value} (hA : AvOK A w) (h0 : v0 = .int .i64 p0) (h1 : v1 = .int .i64 p1) (h2 : v2 = .int .i64 p2) :
    Calls Try.prog 73 #[v0, v1, v2] w fun e w' => ∃ v, e = .returned v ∧ (v = .bool r ∧ Fr w w') := by
  unfold M_impl_within at hr
  obtain ⟨w0, hw0⟩ : ∃ w0, w0 = w := ⟨_, rfl⟩
  have hF : Fr w0 w := hw0 ▸ Fr.refl _
  rw [show Fr w = Fr w0 from hw0 ▸ rfl]
  clear hw0
  refine calls_of_HT2 [.tmp 6] Try.func73 Try.ntmps73 (by decide) rfl rfl (Nat.le_of_ble_eq_true rfl) ?_
  intro R hR
  replace h0 : R 0 = .int .i64 p0 := (hR 0 _ rfl).trans h0
  replace h1 : R 1 = .int .i64 p1 := (hR 1 _ rfl).trans h1
  replace h2 : R 2 = .int .i64 p2 := (hR 2 _ rfl).trans h2
  clear hR
  refine HT.seq ?_
  refine HT.text (l := ⟨_, true, .raw (.bool false)⟩ :: []) (tl := []) (by kernel_rfl) (by kernel_rfl) (by kernel_rfl) ?_ ?_
  · exact
      Obls.cons (Obl.plain rfl rfl fun R' w' hw hs hd => by exact of_assign rfl) <|
      Obls.nil
  intro R w hw hs hF'
  replace h0 : R 0 = .int .i64 p0 := (hs 0 rfl).trans h0
  replace h1 : R 1 = .int .i64 p1 := (hs 1 rfl).trans h1
  replace h2 : R 2 = .int .i64 p2 := (hs 2 rfl).trans h2
  replace hA := hA.fr hw.size
  replace hF := hF.trans hw
  clear hs hF' hw
  refine seqR_nil ?_
  refine HT.seq ?_
  obtain ⟨x1, q2, hr⟩ := bd_some hr
  refine HT.text (l := ⟨_, true, .raw (.int .i64 p0)⟩ :: ⟨_, true, .raw (.int .i64 p1)⟩ :: ⟨_, true, .raw (.bool (decide (p1 ≤ p0)))⟩ :: ⟨_, true, .raw (.bool (decide (p1 ≤ p0)))⟩ :: ⟨_, (true && ((decide (p1 ≤ p0)) == true)), .raw (.int .i64 p0)⟩ :: ⟨_, (true && ((decide (p1 ≤ p0)) == true)), .raw (.int .i64 p2)⟩ :: ⟨_, (true && ((decide (p1 ≤ p0)) == true)), .raw (.bool (decide (p0 ≤ p2)))⟩ :: ⟨_, true, .raw (.bool x1)⟩ :: ⟨_, true, .raw (.bool x1)⟩ :: []) (tl := []) (by kernel_rfl) (by kernel_rfl) (by kernel_rfl) ?_ ?_
  · exact
      Obls.cons (Obl.plain rfl rfl fun R' w' hw hs hd => by have a0 : R' 0 = .int .i64 p0 := (hs 0 rfl).trans h0; exact of_move a0) <|
      Obls.cons (Obl.plain rfl rfl fun R' w' hw hs hd => by have a0 : R' 1 = .int .i64 p1 := (hs 1 rfl).trans h1; exact of_move a0) <|
      Obls.cons (Obl.plain rfl rfl fun R' w' hw hs hd => by have a0 : R' 7 = .int .i64 p0 := hd 0 _ _ _ rfl rfl rfl rfl rfl; have a1 : R' 8 = .int .i64 p1 := hd 1 _ _ _ rfl rfl rfl rfl rfl; exact of_geq a0 a1) <|
      Obls.cons (Obl.plain rfl rfl fun R' w' hw hs hd => by have a0 : R' 9 = .bool (decide (p1 ≤ p0)) := hd 0 _ _ _ rfl rfl rfl rfl rfl; exact of_move a0) <|
      Obls.cons (Obl.grd 3 true _ _ _ rfl rfl rfl rfl rfl (by kernel_rfl) fun hg R' w' hw hs hd => by have a0 : R' 0 = .int .i64 p0 := (hs 0 rfl).trans h0; exact of_move a0) <|
      Obls.cons (Obl.grd 3 true _ _ _ rfl rfl rfl rfl rfl (by kernel_rfl) fun hg R' w' hw hs hd => by have a0 : R' 2 = .int .i64 p2 := (hs 2 rfl).trans h2; exact of_move a0) <|
      Obls.cons (Obl.grd 3 true _ _ _ rfl rfl rfl rfl rfl (by kernel_rfl) fun hg R' w' hw hs hd => by have a0 : R' 11 = .int .i64 p0 := hd 0 _ _ _ rfl rfl rfl rfl hg; have a1 : R' 12 = .int .i64 p2 := hd 1 _ _ _ rfl rfl rfl rfl hg; exact of_leq a0 a1) <|
      Obls.cons (Obl.plain rfl rfl fun R' w' hw hs hd => by have a0 : R' 10 = .bool (decide (p1 ≤ p0)) := hd 0 _ _ _ rfl rfl rfl rfl rfl; exact of_pick (decide (p1 ≤ p0)) a0 (fun hc => by have a1 : R' 13 = .bool (decide (p0 ≤ p2)) := hd 1 _ _ _ rfl rfl rfl rfl (g_and rfl (beq_of hc)); show _ = Value.bool x1; rw [q2, hc]; exact a1) (fun hc => by show _ = Value.bool x1; rw [q2, hc]; exact rfl)) <|
      Obls.cons (Obl.plain rfl rfl fun R' w' hw hs hd => by have a0 : R' 14 = .bool x1 := hd 0 _ _ _ rfl rfl rfl rfl rfl; exact of_assign a0) <|
      Obls.nil
  intro R w hw hs hF'
  have h6 : R 6 = .bool x1 := hF' 8 _ _ rfl rfl rfl
  replace hA := hA.fr hw.size
  replace hF := hF.trans hw
  clear hs hF' hw
  refine seqR_nil ?_
  refine HT.ret ?_
  obtain rfl := Option.some.inj hr
  exact ⟨.inr rfl, [R 6], ⟨rfl, trivial⟩, h6, hF⟩
def M_impl_isFeature (fu : Nat) (p0 : Int) : Option Bool :=
  cl true (M_impl_within fu p0 (0 : Int) (5 : Int)) fun x1 =>
  some x1
set_option maxRecDepth 100000 in
set_option maxHeartbeats 4000000 in
theorem M_impl_isFeature_ok {fu : Nat} {A : Av} {p0 : Int} {r : Bool} (hr : M_impl_isFeature fu p0 = some r) {w : World} {v0 : Value} (hA : AvOK A w) (h0 : v0 = .int .i64 p0) :
    Calls Try.prog 74 #[v0] w fun e w' => ∃ v, e = .returned v ∧ (v = .bool r ∧ Fr w w') := by
  unfold M_impl_isFeature at hr
  obtain ⟨w0, hw0⟩ : ∃ w0, w0 = w := ⟨_, rfl⟩
  have hF : Fr w0 w := hw0 ▸ Fr.refl _
  rw [show Fr w = Fr w0 from hw0 ▸ rfl]
  clear hw0
  refine calls_of_HT2 [.tmp 2] Try.func74 Try.ntmps74 (by decide) rfl rfl (Nat.le_of_ble_eq_true rfl) ?_
  intro R hR
  replace h0 : R 0 = .int .i64 p0 := (hR 0 _ rfl).trans h0
  clear hR
  refine HT.seq ?_
  refine HT.text (l := ⟨_, true, .raw (.bool false)⟩ :: []) (tl := []) (by kernel_rfl) (by kernel_rfl) (by kernel_rfl) ?_ ?_
  · exact
      Obls.cons (Obl.plain rfl rfl fun R' w' hw hs hd => by exact of_assign rfl) <|
      Obls.nil
  intro R w hw hs hF'
  replace h0 : R 0 = .int .i64 p0 := (hs 0 rfl).trans h0
  replace hA := hA.fr hw.size
  replace hF := hF.trans hw
  clear hs hF' hw
  refine seqR_nil ?_
  refine HT.seq ?_
  obtain ⟨x1, q2, hr⟩ := cl_some hr
  refine HT.text (l := ⟨_, true, .raw (.int .i64 p0)⟩ :: ⟨_, true, .raw (.bool x1)⟩ :: ⟨_, true, .raw (.bool x1)⟩ :: []) (tl := []) (by kernel_rfl) (by kernel_rfl) (by kernel_rfl) ?_ ?_
  · exact
      Obls.cons (Obl.plain rfl rfl fun R' w' hw hs hd => by have a0 : R' 0 = .int .i64 p0 := (hs 0 rfl).trans h0; exact of_move a0) <|
      Obls.cons (Obl.plain rfl rfl fun R' w' hw hs hd => by have a0 : R' 3 = .int .i64 p0 := hd 0 _ _ _ rfl rfl rfl rfl rfl; exact of_call Try.call73 (M_impl_within_ok (q2 rfl) (hA.fr hw.size) a0 rfl rfl)) <|
      Obls.cons (Obl.plain rfl rfl fun R' w' hw hs hd => by have a0 : R' 4 = .bool x1 := hd 0 _ _ _ rfl rfl rfl rfl rfl; exact of_assign a0) <|
      Obls.nil
  intro R w hw hs hF'
  have h2 : R 2 = .bool x1 := hF' 2 _ _ rfl rfl rfl
  replace hA := hA.fr hw.size
  replace hF := hF.trans hw
  clear hs hF' hw
  refine seqR_nil ?_
  refine HT.ret ?_
  obtain rfl := Option.some.inj hr
  exact ⟨.inr rfl, [R 2], ⟨rfl, trivial⟩, h2, hF⟩
def M_impl_isThreshold (fu : Nat) (p0 : Int) : Option Bool :=
  cl true (M_impl_within fu p0 (1 : Int) (1000 : Int)) fun x1 =>
  some x1
set_option maxRecDepth 100000 in
set_option maxHeartbeats 4000000 in
theorem M_impl_isThreshold_ok {fu : Nat} {A : Av} {p0 : Int} {r : Bool} (hr : M_impl_isThreshold fu p0 = some r) {w : World} {v0 : Value} (hA : AvOK A w) (h0 : v0 = .int .i64 p0) :
    Calls Try.prog 75 #[v0] w fun e w' => ∃ v, e = .returned v ∧ (v = .bool r ∧ Fr w w') := by
  unfold M_impl_isThreshold at hr
  obtain ⟨w0, hw0⟩ : ∃ w0, w0 = w := ⟨_, rfl⟩
  have hF : Fr w0 w := hw0 ▸ Fr.refl _
  rw [show Fr w = Fr w0 from hw0 ▸ rfl]
  clear hw0
  refine calls_of_HT2 [.tmp 2] Try.func75 Try.ntmps75 (by decide) rfl rfl (Nat.le_of_ble_eq_true rfl) ?_
  intro R hR
  replace h0 : R 0 = .int .i64 p0 := (hR 0 _ rfl).trans h0
  clear hR
  refine HT.seq ?_
  refine HT.text (l := ⟨_, true, .raw (.bool false)⟩ :: []) (tl := []) (by kernel_rfl) (by kernel_rfl) (by kernel_rfl) ?_ ?_
  · exact
      Obls.cons (Obl.plain rfl rfl fun R' w' hw hs hd => by exact of_assign rfl) <|
      Obls.nil
  intro R w hw hs hF'
  replace h0 : R 0 = .int .i64 p0 := (hs 0 rfl).trans h0
  replace hA := hA.fr hw.size
  replace hF := hF.trans hw
  clear hs hF' hw
  refine seqR_nil ?_
  refine HT.seq ?_
  obtain ⟨x1, q2, hr⟩ := cl_some hr
  refine HT.text (l := ⟨_, true, .raw (.int .i64 p0)⟩ :: ⟨_, true, .raw (.bool x1)⟩ :: ⟨_, true, .raw (.bool x1)⟩ :: []) (tl := []) (by kernel_rfl) (by kernel_rfl) (by kernel_rfl) ?_ ?_
  · exact
      Obls.cons (Obl.plain rfl rfl fun R' w' hw hs hd => by have a0 : R' 0 = .int .i64 p0 := (hs 0 rfl).trans h0; exact of_move a0) <|
      Obls.cons (Obl.plain rfl rfl fun R' w' hw hs hd => by have a0 : R' 3 = .int .i64 p0 := hd 0 _ _ _ rfl rfl rfl rfl rfl; exact of_call Try.call73 (M_impl_within_ok (q2 rfl) (hA.fr hw.size) a0 rfl rfl)) <|
      Obls.cons (Obl.plain rfl rfl fun R' w' hw hs hd => by have a0 : R' 4 = .bool x1 := hd 0 _ _ _ rfl rfl rfl rfl rfl; exact of_assign a0) <|
      Obls.nil
  intro R w hw hs hF'
  have h2 : R 2 = .bool x1 := hF' 2 _ _ rfl rfl rfl
  replace hA := hA.fr hw.size
  replace hF := hF.trans hw
  clear hs hF' hw
  refine seqR_nil ?_
  refine HT.ret ?_
  obtain rfl := Option.some.inj hr
  exact ⟨.inr rfl, [R 2], ⟨rfl, trivial⟩, h2, hF⟩
def M_slices_Index_impl_DiagramNode_impl_DiagramNode_L0 (fu : Nat) (p0 : List T_impl_DiagramNode) (p1 : T_impl_DiagramNode) : Nat → Int → Option (Ex Int Unit)
  | 0, _ => none
  | k + 1, y5 =>
    bif (decide (y5 < (p0.length : Int))) then (
      ck (inR y5 p0.length) <|
      bif (p1 == (gtD p0 y5)) then (
        some (Ex.ret y5)
      ) else (
        ck (i64B (y5 + (1 : Int))) <|
        M_slices_Index_impl_DiagramNode_impl_DiagramNode_L0 fu p0 p1 k (y5 + (1 : Int))
      )
    ) else (
      some (Ex.go ())
    )
def M_slices_Index_impl_DiagramNode_impl_DiagramNode (fu : Nat) (p0 : List T_impl_DiagramNode) (p1 : T_impl_DiagramNode) : Option Int :=
  cl true (M_slices_Index_impl_DiagramNode_impl_DiagramNode_L0 fu p0 p1 fu (0 : Int)) fun rl2 =>
  exM rl2 (fun r => some r) fun s4 =>
  some (-1 : Int)
set_option maxRecDepth 100000 in
set_option maxHeartbeats 4000000 in
theorem M_slices_Index_impl_DiagramNode_impl_DiagramNode_ok {fu : Nat} {A0 : Av} {p0 : List T_impl_DiagramNode} {p1 : T_impl_DiagramNode} {r : Int} (hr : M_slices_Index_impl_DiagramNode_impl_DiagramNode fu p0 p1 = some r) {w : World} {v0 : Value} {v1 : Value} (hA : AvOK A0 w) (h0 : Rep (eSl E_impl_DiagramNode) A0 w v0 p0) (h1 : Rep E_impl_DiagramNode A0 w v1 p1) :
    Calls Try.prog 113 #[v0, v1] w fun e w' => ∃ v, e = .returned v ∧ (v = .int .i64 r ∧ Fr w w') := by
  unfold M_slices_Index_impl_DiagramNode_impl_DiagramNode at hr
  obtain ⟨w0, hw0⟩ : ∃ w0, w0 = w := ⟨_, rfl⟩
  have hF : Fr w0 w := hw0 ▸ Fr.refl _
  have hA0 : ∀ b o, A0 b o → b < w0.heap.size := fun b o h => hw0 ▸ hA b o h
  have hA00 : AvOK A0 w0 := hA0
  rw [show Fr w = Fr w0 from hw0 ▸ rfl]
  clear hw0
  obtain ⟨A, hAe⟩ : ∃ A, A = A0 := ⟨_, rfl⟩
  have hAA : ∀ b o, A0 b o → A b o := fun b o h => hAe ▸ h
  replace hA : AvOK A w := hAe ▸ hA
  have hO : IniOK [] A w := IniOK.nil
  refine calls_of_HT2 [.tmp 4] Try.func113 Try.ntmps113 (by decide) rfl rfl (Nat.le_of_ble_eq_true rfl) ?_
  intro R hR
  have f_v0 : Rep (eSl E_impl_DiagramNode) A w v0 p0 := hAe ▸ h0
  replace h0 : R 0 = v0 := hR 0 _ rfl
  have f_v1 : Rep E_impl_DiagramNode A w v1 p1 := hAe ▸ h1
  replace h1 : R 1 = v1 := hR 1 _ rfl
  clear hR hAe
  refine HT.seq ?_
  refine HT.textR [] (⟨_, true, none, some (.box w0.heap.size 92 E_impl_DiagramNode p1), true, fun A => .any⟩ :: ⟨_, true, none, none, true, fun A => .raw (.int .i64 (0 : Int))⟩ :: []) (by kernel_rfl) (by kernel_rfl) (Wf.mk' (by kernel_rfl) (UAll.cons ust_any (UAll.cons ust_raw (UAll.nil))) (by kernel_rfl) (by kernel_rfl)) hO hA ?_ ?_
  · exact
      OblsR.cons (OblR.made _ rfl rfl rfl rfl fun A' R' w' ho hd => by have a0 : R' 1 = v1 := (ho.old 1 rfl).trans h1; have ra0 := (f_v1.stp ho.stp).eq a0; exact made_box ra0 (Nat.le_trans hF.size ho.ch.size)) <|
      OblsR.cons (OblR.plain rfl rfl rfl rfl fun A' R' w' ho hd => by exact of_assign rfl) <|
      OblsR.nil
  intro done ρ A R w hdn hI
  replace h0 : R 0 = v0 := (hI.reg rfl).trans h0
  obtain ⟨b3_0, e_b3_0⟩ := hI.boxv hdn 0 rfl rfl
  have h3 : R 3 = (.pointer (some ⟨b3_0, 0, none⟩)) := (hI.opvR hdn 0 0 rfl rfl rfl rfl rfl).symm.trans e_b3_0
  replace f_v0 := f_v0.stp hI.stp
  replace hAA := hI.low' hAA hA0 (hO.ge (trivial))
  replace hF : Fr w0 w := Below.trans hF (hI.ch.below hF.size (hO.ge (trivial)))
  replace hO : IniOK [((.pointer (some ⟨b3_0, 0, none⟩)), .box w0.heap.size 92 E_impl_DiagramNode p1)] A w := hI.left hdn [(0, (.pointer (some ⟨b3_0, 0, none⟩)), .box w0.heap.size 92 E_impl_DiagramNode p1)] ⟨rfl, rfl, e_b3_0, rfl, trivial⟩
  replace hA := hI.avok
  clear hI
  refine HT.seq ?_
  refine HT.seq ?_
  refine HT.text (l := ⟨_, true, .raw v0⟩ :: ⟨_, true, .raw (.int .i64 (p0.length : Int))⟩ :: ⟨_, true, .raw (.int .i64 (0 : Int))⟩ :: []) (tl := []) (by kernel_rfl) (by kernel_rfl) (by kernel_rfl) ?_ ?_
  · exact
      Obls.cons (Obl.plain rfl rfl fun R' w' hw hs hd => by have a0 : R' 0 = v0 := (hs 0 rfl).trans h0; exact of_move a0) <|
      Obls.cons (Obl.plain rfl rfl fun R' w' hw hs hd => by have a0 : R' 6 = v0 := hd 0 _ _ _ rfl rfl rfl rfl rfl; have ra0 := (f_v0.fr hw).eq a0; exact of_len_sl (aT := #[]) ra0 Try.underlying41) <|
      Obls.cons (Obl.plain rfl rfl fun R' w' hw hs hd => by exact of_move rfl) <|
      Obls.nil
  intro R w hw hs hF'
  replace h0 : R 0 = v0 := (hs 0 rfl).trans h0
  replace h3 : R 3 = (.pointer (some ⟨b3_0, 0, none⟩)) := (hs 3 rfl).trans h3
  have h7 : R 7 = .int .i64 (p0.length : Int) := hF' 1 _ _ rfl rfl rfl
  have h8 : R 8 = .int .i64 (0 : Int) := hF' 2 _ _ rfl rfl rfl
  replace f_v0 := f_v0.fr hw
  replace hO := hO.fr hw
  replace hA := hA.fr hw.size
  replace hF := hF.trans hw
  clear hs hF' hw
  refine seqR_nil ?_
  obtain ⟨rl2, q3, hr⟩ := cl_some hr
  replace q3 := q3 rfl
  refine HT.cut0 (fun R w => ∃ A : Av, ∃ (s4 : Unit), rl2 = Ex.go s4 ∧ AvOK A w ∧ Fr w0 w ∧ (∀ b o, A0 b o → A b o) ∧ IniOK [] A w) ?_ ?_
  · refine HT.block ?_
    refine HT.loop (fun k R w => ∃ A : Av, ∃ (y5 : Int), M_slices_Index_impl_DiagramNode_impl_DiagramNode_L0 fu p0 p1 k y5 = some rl2 ∧ AvOK A w ∧ Fr w0 w ∧ (∀ b o, A0 b o → A b o) ∧ IniOK [((.pointer (some ⟨b3_0, 0, none⟩)), .box w0.heap.size 92 E_impl_DiagramNode p1)] A w ∧ R 0 = v0 ∧ R 3 = (.pointer (some ⟨b3_0, 0, none⟩)) ∧ R 7 = .int .i64 (p0.length : Int) ∧ R 8 = .int .i64 y5 ∧ Rep (eSl E_impl_DiagramNode) A w v0 p0) fu ⟨_, _, q3, hA, hF, hAA, hO, h0, h3, h7, h8, f_v0⟩ ?_
    have hr0 := hr; clear hr q3
    rintro k R w ⟨A, y5, hr, hA, hF, hAA, hO, h0, h3, h7, h8, f_v0⟩
    rcases k with _ | k
    · cases (show none = some _ from hr)
    rw [M_slices_Index_impl_DiagramNode_impl_DiagramNode_L0] at hr
    refine HT.seq ?_
    refine HT.text (l := ⟨_, true, .raw (.bool (decide (y5 < (p0.length : Int))))⟩ :: []) (tl := []) (by kernel_rfl) (by kernel_rfl) (by kernel_rfl) ?_ ?_
    · exact
        Obls.cons (Obl.plain rfl rfl fun R' w' hw hs hd => by have a0 : R' 8 = .int .i64 y5 := (hs 8 rfl).trans h8; have a1 : R' 7 = .int .i64 (p0.length : Int) := (hs 7 rfl).trans h7; exact of_lss a0 a1) <|
        Obls.nil
    intro R w hw hs hF'
    replace h0 : R 0 = v0 := (hs 0 rfl).trans h0
    replace h3 : R 3 = (.pointer (some ⟨b3_0, 0, none⟩)) := (hs 3 rfl).trans h3
    replace h7 : R 7 = .int .i64 (p0.length : Int) := (hs 7 rfl).trans h7
    replace h8 : R 8 = .int .i64 y5 := (hs 8 rfl).trans h8
    have h9 : R 9 = .bool (decide (y5 < (p0.length : Int))) := hF' 0 _ _ rfl rfl rfl
    replace f_v0 := f_v0.fr hw
    replace hO := hO.fr hw
    replace hA := hA.fr hw.size
    replace hF := hF.trans hw
    clear hs hF' hw
    refine seqR_nil ?_
    refine HT.seq ?_
    refine HT.cond (decide (y5 < (p0.length : Int))) h9 (fun c6 => ?_) (fun c6 => ?_)
    · have hr := cnd_t c6 hr
      refine HT.skip ?_
      refine HT.seq ?_
      refine HT.block ?_
      refine HT.seq ?_
      refine HT.text (l := ⟨_, true, .raw (.int .i64 y5)⟩ :: ⟨_, true, .raw (.int .i64 y5)⟩ :: []) (tl := []) (by kernel_rfl) (by kernel_rfl) (by kernel_rfl) ?_ ?_
      · exact
          Obls.cons (Obl.plain rfl rfl fun R' w' hw hs hd => by have a0 : R' 8 = .int .i64 y5 := (hs 8 rfl).trans h8; exact of_move a0) <|
          Obls.cons (Obl.plain rfl rfl fun R' w' hw hs hd => by have a0 : R' 10 = .int .i64 y5 := hd 0 _ _ _ rfl rfl rfl rfl rfl; exact of_assign a0) <|
          Obls.nil
      intro R w hw hs hF'
      replace h0 : R 0 = v0 := (hs 0 rfl).trans h0
      replace h3 : R 3 = (.pointer (some ⟨b3_0, 0, none⟩)) := (hs 3 rfl).trans h3
      replace h7 : R 7 = .int .i64 (p0.length : Int) := (hs 7 rfl).trans h7
      replace h8 : R 8 = .int .i64 y5 := (hs 8 rfl).trans h8
      have h5 : R 5 = .int .i64 y5 := hF' 1 _ _ rfl rfl rfl
      replace f_v0 := f_v0.fr hw
      replace hO := hO.fr hw
      replace hA := hA.fr hw.size
      replace hF := hF.trans hw
      clear hs hF' hw
      refine seqR_nil ?_
      refine HT.seq ?_
      obtain ⟨e7, hr⟩ := ck_some hr
      refine HT.draw (by kernel_rfl) (l := ⟨_, true, .rep E_impl_DiagramNode A p1⟩ :: ⟨_, true, .raw v0⟩ :: ⟨_, true, .raw (.int .i64 y5)⟩ :: ⟨_, true, .qtr E_impl_DiagramNode A (gtD p0 y5)⟩ :: ⟨_, true, .rep E_impl_DiagramNode A (gtD p0 y5)⟩ :: ⟨_, true, .raw (.bool (p1 == (gtD p0 y5)))⟩ :: []) (tl := []) (by kernel_rfl) (by kernel_rfl) (by kernel_rfl) (by kernel_rfl) ?_ ?_
      · exact
          Obls.cons (Obl.plain rfl rfl fun R' w' hw hs hd => by have a0 : R' 3 = (.pointer (some ⟨b3_0, 0, none⟩)) := (hs 3 rfl).trans h3; exact (of_load_box ((hO.fr hw).ok 0 _ rfl).1 a0 (Fld.id _) rfl Try.isAgg92 Try.sizeOf92)) <|
          Obls.cons (Obl.plain rfl rfl fun R' w' hw hs hd => by have a0 : R' 0 = v0 := (hs 0 rfl).trans h0; exact of_move a0) <|
          Obls.cons (Obl.plain rfl rfl fun R' w' hw hs hd => by have a0 : R' 5 = .int .i64 y5 := (hs 5 rfl).trans h5; exact of_move a0) <|
          Obls.cons (Obl.plain rfl rfl fun R' w' hw hs hd => by have a0 : R' 12 = v0 := hd 0 _ _ _ rfl rfl rfl rfl rfl; have a1 : R' 13 = .int .i64 y5 := hd 1 _ _ _ rfl rfl rfl rfl rfl; have ra0 := (f_v0.fr hw).eq a0; exact of_indexAddr ra0 a1 Try.underlying41 Try.sizeOf92 e7) <|
          Obls.cons (Obl.plain rfl rfl fun R' w' hw hs hd => by have a0 : QRep E_impl_DiagramNode A w' (R' 14) (gtD p0 y5) := hd 0 _ _ _ rfl rfl rfl rfl rfl; exact (of_load a0.ptr Try.isAgg92 Try.sizeOf92)) <|
          Obls.cons (Obl.plain rfl rfl fun R' w' hw hs hd => by have a0 : Rep E_impl_DiagramNode A w' (R' 11) p1 := hd 0 _ _ _ rfl rfl rfl rfl rfl; have a1 : Rep E_impl_DiagramNode A w' (R' 15) (gtD p0 y5) := hd 1 _ _ _ rfl rfl rfl rfl rfl; exact of_struct_eql Try.eqGuardType92 (val_impl_DiagramNode a0) (val_impl_DiagramNode a1) (eql_92 p1 (gtD p0 y5) _)) <|
          Obls.nil
      intro R w hw hs hF'
      replace h0 : R 0 = v0 := (hs 0 rfl).trans h0
      replace h3 : R 3 = (.pointer (some ⟨b3_0, 0, none⟩)) := (hs 3 rfl).trans h3
      replace h5 : R 5 = .int .i64 y5 := (hs 5 rfl).trans h5
      replace h7 : R 7 = .int .i64 (p0.length : Int) := (hs 7 rfl).trans h7
      replace h8 : R 8 = .int .i64 y5 := (hs 8 rfl).trans h8
      have h16 : R 16 = .bool (p1 == (gtD p0 y5)) := hF' 5 _ _ rfl rfl rfl
      replace f_v0 := f_v0.fr hw
      replace hO := hO.fr hw
      replace hA := hA.fr hw.size
      replace hF := hF.trans hw
      clear hs hF' hw
      refine seqR_nil ?_
      refine HT.cond (p1 == (gtD p0 y5)) h16 (fun c8 => ?_) (fun c8 => ?_)
      · have hr := cnd_t c8 hr
        refine HT.seq ?_
        refine HT.text (l := ⟨_, true, .raw (.int .i64 y5)⟩ :: ⟨_, true, .raw (.int .i64 y5)⟩ :: []) (tl := []) (by kernel_rfl) (by kernel_rfl) (by kernel_rfl) ?_ ?_
        · exact
            Obls.cons (Obl.plain rfl rfl fun R' w' hw hs hd => by have a0 : R' 5 = .int .i64 y5 := (hs 5 rfl).trans h5; exact of_move a0) <|
            Obls.cons (Obl.plain rfl rfl fun R' w' hw hs hd => by have a0 : R' 17 = .int .i64 y5 := hd 0 _ _ _ rfl rfl rfl rfl rfl; exact of_assign a0) <|
            Obls.nil
        intro R w hw hs hF'
        have h4 : R 4 = .int .i64 y5 := hF' 1 _ _ rfl rfl rfl
        replace hO := hO.fr hw
        replace hO : IniOK [] A w := hO.sub [] trivial
        replace hA := hA.fr hw.size
        replace hF := hF.trans hw
        clear hs hF' hw
        refine seqR_nil ?_
        refine HT.ret ?_
        obtain rfl := Option.some.inj hr
        have hr := hr0
        replace hr : some _ = some _ := hr
        obtain rfl := Option.some.inj hr
        exact ⟨.inr rfl, [R 4], ⟨rfl, trivial⟩, h4, hF⟩
      · have hr := cnd_f c8 hr
        refine HT.skip ?_
        obtain ⟨e9, hr⟩ := ck_some hr
        refine HT.text (l := ⟨_, true, .raw (.int .i64 (y5 + (1 : Int)))⟩ :: ⟨_, true, .raw (.int .i64 (y5 + (1 : Int)))⟩ :: []) (tl := []) (by kernel_rfl) (by kernel_rfl) (by kernel_rfl) ?_ ?_
        · exact
            Obls.cons (Obl.plain rfl rfl fun R' w' hw hs hd => by have a0 : R' 8 = .int .i64 y5 := (hs 8 rfl).trans h8; exact of_add a0 rfl e9) <|
            Obls.cons (Obl.plain rfl rfl fun R' w' hw hs hd => by have a0 : R' 18 = .int .i64 (y5 + (1 : Int)) := hd 0 _ _ _ rfl rfl rfl rfl rfl; exact of_move a0) <|
            Obls.nil
        intro R w hw hs hF'
        replace h0 : R 0 = v0 := (hs 0 rfl).trans h0
        replace h3 : R 3 = (.pointer (some ⟨b3_0, 0, none⟩)) := (hs 3 rfl).trans h3
        replace h7 : R 7 = .int .i64 (p0.length : Int) := (hs 7 rfl).trans h7
        have h8 : R 8 = .int .i64 (y5 + (1 : Int)) := hF' 1 _ _ rfl rfl rfl
        replace f_v0 := f_v0.fr hw
        replace hO := hO.fr hw
        replace hA := hA.fr hw.size
        replace hF := hF.trans hw
        clear hs hF' hw
        refine seqR_nil ?_
        exact Exists.intro k (And.intro (Nat.lt_succ_self k) ⟨_, _, hr, hA, hF, hAA, hO, h0, h3, h7, h8, f_v0⟩)
    · have hr := cnd_f c6 hr
      refine HT.exit ?_
      obtain rfl := Option.some.inj hr
      replace hO : IniOK [] A w := hO.sub [] trivial
      exact Exists.intro _ ⟨_, rfl, hA, hF, hAA, hO⟩
  rintro R w ⟨A, s4, rfl, hA, hF, hAA, hO⟩
  have hr := exM_go hr
  refine HT.seq ?_
  refine HT.text (l := ⟨_, true, .raw (.int .i64 (-1 : Int))⟩ :: []) (tl := []) (by kernel_rfl) (by kernel_rfl) (by kernel_rfl) ?_ ?_
  · exact
      Obls.cons (Obl.plain rfl rfl fun R' w' hw hs hd => by exact of_assign rfl) <|
      Obls.nil
  intro R w hw hs hF'
  have h4 : R 4 = .int .i64 (-1 : Int) := hF' 0 _ _ rfl rfl rfl
  replace hO := hO.fr hw
  replace hA := hA.fr hw.size
  replace hF := hF.trans hw
  clear hs hF' hw
  refine seqR_nil ?_
  refine HT.ret ?_
  obtain rfl := Option.some.inj hr
  exact ⟨.inr rfl, [R 4], ⟨rfl, trivial⟩, h4, hF⟩
def M_slices_Contains_impl_DiagramNode_impl_DiagramNode (fu : Nat) (p0 : List T_impl_DiagramNode) (p1 : T_impl_DiagramNode) : Option Bool :=
  cl true (M_slices_Index_impl_DiagramNode_impl_DiagramNode fu p0 p1) fun x2 =>
  some (decide ((0 : Int) ≤ x2))
set_option maxRecDepth 100000 in
set_option maxHeartbeats 4000000 in
theorem M_slices_Contains_impl_DiagramNode_impl_DiagramNode_ok {fu : Nat} {A0 : Av} {p0 : List T_impl_DiagramNode} {p1 : T_impl_DiagramNode} {r : Bool} (hr : M_slices_Contains_impl_DiagramNode_impl_DiagramNode fu p0 p1 = some r) {w : World} {v0 : Value} {v1 : Value} (hA : AvOK A0 w) (h0 : Rep (eSl E_impl_DiagramNode) A0 w v0 p0) (h1 : Rep E_impl_DiagramNode A0 w v1 p1) :
    Calls Try.prog 76 #[v0, v1] w fun e w' => ∃ v, e = .returned v ∧ (v = .bool r ∧ Fr w w') := by
  unfold M_slices_Contains_impl_DiagramNode_impl_DiagramNode at hr
  obtain ⟨w0, hw0⟩ : ∃ w0, w0 = w := ⟨_, rfl⟩
  have hF : Fr w0 w := hw0 ▸ Fr.refl _
  have hA0 : ∀ b o, A0 b o → b < w0.heap.size := fun b o h => hw0 ▸ hA b o h
  have hA00 : AvOK A0 w0 := hA0
  rw [show Fr w = Fr w0 from hw0 ▸ rfl]
  clear hw0
  obtain ⟨A, hAe⟩ : ∃ A, A = A0 := ⟨_, rfl⟩
  have hAA : ∀ b o, A0 b o → A b o := fun b o h => hAe ▸ h
  replace hA : AvOK A w := hAe ▸ hA
  have hO : IniOK [] A w := IniOK.nil
  refine calls_of_HT2 [.tmp 4] Try.func76 Try.ntmps76 (by decide) rfl rfl (Nat.le_of_ble_eq_true rfl) ?_
  intro R hR
  have f_v0 : Rep (eSl E_impl_DiagramNode) A w v0 p0 := hAe ▸ h0
  replace h0 : R 0 = v0 := hR 0 _ rfl
  have f_v1 : Rep E_impl_DiagramNode A w v1 p1 := hAe ▸ h1
  replace h1 : R 1 = v1 := hR 1 _ rfl
  clear hR hAe
  refine HT.seq ?_
  refine HT.textR [] (⟨_, true, none, some (.box w0.heap.size 92 E_impl_DiagramNode p1), true, fun A => .any⟩ :: ⟨_, true, none, none, true, fun A => .raw (.bool false)⟩ :: []) (by kernel_rfl) (by kernel_rfl) (Wf.mk' (by kernel_rfl) (UAll.cons ust_any (UAll.cons ust_raw (UAll.nil))) (by kernel_rfl) (by kernel_rfl)) hO hA ?_ ?_
  · exact
      OblsR.cons (OblR.made _ rfl rfl rfl rfl fun A' R' w' ho hd => by have a0 : R' 1 = v1 := (ho.old 1 rfl).trans h1; have ra0 := (f_v1.stp ho.stp).eq a0; exact made_box ra0 (Nat.le_trans hF.size ho.ch.size)) <|
      OblsR.cons (OblR.plain rfl rfl rfl rfl fun A' R' w' ho hd => by exact of_assign rfl) <|
      OblsR.nil
  intro done ρ A R w hdn hI
  replace h0 : R 0 = v0 := (hI.reg rfl).trans h0
  obtain ⟨b3_0, e_b3_0⟩ := hI.boxv hdn 0 rfl rfl
  have h3 : R 3 = (.pointer (some ⟨b3_0, 0, none⟩)) := (hI.opvR hdn 0 0 rfl rfl rfl rfl rfl).symm.trans e_b3_0
  replace f_v0 := f_v0.stp hI.stp
  replace hAA := hI.low' hAA hA0 (hO.ge (trivial))
  replace hF : Fr w0 w := Below.trans hF (hI.ch.below hF.size (hO.ge (trivial)))
  replace hO : IniOK [((.pointer (some ⟨b3_0, 0, none⟩)), .box w0.heap.size 92 E_impl_DiagramNode p1)] A w := hI.left hdn [(0, (.pointer (some ⟨b3_0, 0, none⟩)), .box w0.heap.size 92 E_impl_DiagramNode p1)] ⟨rfl, rfl, e_b3_0, rfl, trivial⟩
  replace hA := hI.avok
  clear hI
  refine HT.seq ?_
  obtain ⟨x2, q3, hr⟩ := cl_some hr
  refine HT.text (l := ⟨_, true, .raw v0⟩ :: ⟨_, true, .rep E_impl_DiagramNode A p1⟩ :: ⟨_, true, .raw (.int .i64 x2)⟩ :: ⟨_, true, .raw (.bool (decide ((0 : Int) ≤ x2)))⟩ :: ⟨_, true, .raw (.bool (decide ((0 : Int) ≤ x2)))⟩ :: []) (tl := []) (by kernel_rfl) (by kernel_rfl) (by kernel_rfl) ?_ ?_
  · exact
      Obls.cons (Obl.plain rfl rfl fun R' w' hw hs hd => by have a0 : R' 0 = v0 := (hs 0 rfl).trans h0; exact of_move a0) <|
      Obls.cons (Obl.plain rfl rfl fun R' w' hw hs hd => by have a0 : R' 3 = (.pointer (some ⟨b3_0, 0, none⟩)) := (hs 3 rfl).trans h3; exact (of_load_box ((hO.fr hw).ok 0 _ rfl).1 a0 (Fld.id _) rfl Try.isAgg92 Try.sizeOf92)) <|
      Obls.cons (Obl.plain rfl rfl fun R' w' hw hs hd => by have a0 : R' 5 = v0 := hd 0 _ _ _ rfl rfl rfl rfl rfl; have ra0 := (f_v0.fr hw).eq a0; have a1 : Rep E_impl_DiagramNode A w' (R' 6) p1 := hd 1 _ _ _ rfl rfl rfl rfl rfl; exact of_call Try.call113 (M_slices_Index_impl_DiagramNode_impl_DiagramNode_ok (q3 rfl) (hA.fr hw.size) ra0 a1)) <|
      Obls.cons (Obl.plain rfl rfl fun R' w' hw hs hd => by have a0 : R' 7 = .int .i64 x2 := hd 0 _ _ _ rfl rfl rfl rfl rfl; exact of_geq a0 rfl) <|
      Obls.cons (Obl.plain rfl rfl fun R' w' hw hs hd => by have a0 : R' 8 = .bool (decide ((0 : Int) ≤ x2)) := hd 0 _ _ _ rfl rfl rfl rfl rfl; exact of_assign a0) <|
      Obls.nil
  intro R w hw hs hF'
  have h4 : R 4 = .bool (decide ((0 : Int) ≤ x2)) := hF' 4 _ _ rfl rfl rfl
  replace hO := hO.fr hw
  replace hO : IniOK [] A w := hO.sub [] trivial
  replace hA := hA.fr hw.size
  replace hF := hF.trans hw
  clear hs hF' hw
  refine seqR_nil ?_
  refine HT.ret ?_
  obtain rfl := Option.some.inj hr
  exact ⟨.inr rfl, [R 4], ⟨rfl, trivial⟩, h4, hF⟩
def M_impl_Diagram_isChild (fu : Nat) (p0 : T_impl_Diagram) (p1 : Int) (p2 : Int) : Option Bool :=
  ck (i64B (p1 + (1 : Int))) <|
  cl true (M_impl_within fu p2 (0 : Int) (p1 + (1 : Int))) fun x3 =>
  bif (!x3) then (
    some false
  ) else (
    bif (decide (p2 < (2 : Int))) then (
      some true
    ) else (
      ck (inR p1 p0.2.length) <|
      ck (i64B (p2 - (2 : Int))) <|
      ck (inR (p2 - (2 : Int)) p0.2.length) <|
      bd ((((gtD p0.2 (p2 - (2 : Int))).1) == ((gtD p0.2 p1).1)) && (decide (((gtD p0.2 p1).2.1) < ((gtD p0.2 (p2 - (2 : Int))).2.1)))) fun x15 =>
      bd ((decide (((gtD p0.2 p1).1) < ((gtD p0.2 (p2 - (2 : Int))).1))) || x15) fun x17 =>
      some x17
    )
  )
set_option maxRecDepth 100000 in
set_option maxHeartbeats 4000000 in
theorem M_impl_Diagram_isChild_ok {fu : Nat} {A0 : Av} {p0 : T_impl_Diagram} {p1 : Int} {p2 : Int} {r : Bool} (hr : M_impl_Diagram_isChild fu p0 p1 p2 = some r) {w : World} {v0 : Value} {v1 : Value} {v2 : Value} (hA : AvOK A0 w) (h0 : Rep E_impl_Diagram A0 w v0 p0) (h1 : v1 = .int .i64 p1) (h2 : v2 = .int .i64 p2) :
    Calls Try.prog 77 #[v0, v1, v2] w fun e w' => ∃ v, e = .returned v ∧ (v = .bool r ∧ Fr w w') := by
  unfold M_impl_Diagram_isChild at hr
  obtain ⟨w0, hw0⟩ : ∃ w0, w0 = w := ⟨_, rfl⟩
  have hF : Fr w0 w := hw0 ▸ Fr.refl _
  have hA0 : ∀ b o, A0 b o → b < w0.heap.size := fun b o h => hw0 ▸ hA b o h
  have hA00 : AvOK A0 w0 := hA0
  rw [show Fr w = Fr w0 from hw0 ▸ rfl]
  clear hw0
  obtain ⟨A, hAe⟩ : ∃ A, A = A0 := ⟨_, rfl⟩
  have hAA : ∀ b o, A0 b o → A b o := fun b o h => hAe ▸ h
  replace hA : AvOK A w := hAe ▸ hA
  have hO : IniOK [] A w := IniOK.nil
  refine calls_of_HT2 [.tmp 6] Try.func77 Try.ntmps77 (by decide) rfl rfl (Nat.le_of_ble_eq_true rfl) ?_
  intro R hR
  have f_v0 : Rep E_impl_Diagram A w v0 p0 := hAe ▸ h0
  replace h0 : R 0 = v0 := hR 0 _ rfl
  replace h1 : R 1 = .int .i64 p1 := (hR 1 _ rfl).trans h1
  replace h2 : R 2 = .int .i64 p2 := (hR 2 _ rfl).trans h2
  clear hR hAe
  refine HT.seq ?_
  refine HT.textR [] (⟨_, true, none, some (.box w0.heap.size 43 E_impl_Diagram p0), true, fun A => .any⟩ :: ⟨_, true, none, none, true, fun A => .raw (.bool false)⟩ :: []) (by kernel_rfl) (by kernel_rfl) (Wf.mk' (by kernel_rfl) (UAll.cons ust_any (UAll.cons ust_raw (UAll.nil))) (by kernel_rfl) (by kernel_rfl)) hO hA ?_ ?_
  · exact
      OblsR.cons (OblR.made _ rfl rfl rfl rfl fun A' R' w' ho hd => by have a0 : R' 0 = v0 := (ho.old 0 rfl).trans h0; have ra0 := (f_v0.stp ho.stp).eq a0; exact made_box ra0 (Nat.le_trans hF.size ho.ch.size)) <|
      OblsR.cons (OblR.plain rfl rfl rfl rfl fun A' R' w' ho hd => by exact of_assign rfl) <|
      OblsR.nil
  intro done ρ A R w hdn hI
  replace h1 : R 1 = .int .i64 p1 := (hI.reg rfl).trans h1
  replace h2 : R 2 = .int .i64 p2 := (hI.reg rfl).trans h2
  obtain ⟨b3_0, e_b3_0⟩ := hI.boxv hdn 0 rfl rfl
  have h3 : R 3 = (.pointer (some ⟨b3_0, 0, none⟩)) := (hI.opvR hdn 0 0 rfl rfl rfl rfl rfl).symm.trans e_b3_0
  replace hAA := hI.low' hAA hA0 (hO.ge (trivial))
  replace hF : Fr w0 w := Below.trans hF (hI.ch.below hF.size (hO.ge (trivial)))
  replace hO : IniOK [((.pointer (some ⟨b3_0, 0, none⟩)), .box w0.heap.size 43 E_impl_Diagram p0)] A w := hI.left hdn [(0, (.pointer (some ⟨b3_0, 0, none⟩)), .box w0.heap.size 43 E_impl_Diagram p0)] ⟨rfl, rfl, e_b3_0, rfl, trivial⟩
  replace hA := hI.avok
  clear hI
  refine HT.seq ?_
  refine HT.seq ?_
  obtain ⟨e2, hr⟩ := ck_some hr
  obtain ⟨x3, q4, hr⟩ := cl_some hr
  refine HT.text (l := ⟨_, true, .raw (.int .i64 p2)⟩ :: ⟨_, true, .raw (.int .i64 p1)⟩ :: ⟨_, true, .raw (.int .i64 (p1 + (1 : Int)))⟩ :: ⟨_, true, .raw (.bool x3)⟩ :: ⟨_, true, .raw (.bool (!x3))⟩ :: []) (tl := []) (by kernel_rfl) (by kernel_rfl) (by kernel_rfl) ?_ ?_
  · exact
      Obls.cons (Obl.plain rfl rfl fun R' w' hw hs hd => by have a0 : R' 2 = .int .i64 p2 := (hs 2 rfl).trans h2; exact of_move a0) <|
      Obls.cons (Obl.plain rfl rfl fun R' w' hw hs hd => by have a0 : R' 1 = .int .i64 p1 := (hs 1 rfl).trans h1; exact of_move a0) <|
      Obls.cons (Obl.plain rfl rfl fun R' w' hw hs hd => by have a0 : R' 10 = .int .i64 p1 := hd 0 _ _ _ rfl rfl rfl rfl rfl; exact of_add a0 rfl e2) <|
      Obls.cons (Obl.plain rfl rfl fun R' w' hw hs hd => by have a0 : R' 9 = .int .i64 p2 := hd 0 _ _ _ rfl rfl rfl rfl rfl; have a2 : R' 11 = .int .i64 (p1 + (1 : Int)) := hd 1 _ _ _ rfl rfl rfl rfl rfl; exact of_call Try.call73 (M_impl_within_ok (q4 rfl) (hA.fr hw.size) a0 rfl a2)) <|
      Obls.cons (Obl.plain rfl rfl fun R' w' hw hs hd => by have a0 : R' 12 = .bool x3 := hd 0 _ _ _ rfl rfl rfl rfl rfl; exact of_not a0) <|
      Obls.nil
  intro R w hw hs hF'
  replace h1 : R 1 = .int .i64 p1 := (hs 1 rfl).trans h1
  replace h2 : R 2 = .int .i64 p2 := (hs 2 rfl).trans h2
  replace h3 : R 3 = (.pointer (some ⟨b3_0, 0, none⟩)) := (hs 3 rfl).trans h3
  have h13 : R 13 = .bool (!x3) := hF' 4 _ _ rfl rfl rfl
  replace hO := hO.fr hw
  replace hA := hA.fr hw.size
  replace hF := hF.trans hw
  clear hs hF' hw
  refine seqR_nil ?_
  refine HT.cond (!x3) h13 (fun c5 => ?_) (fun c5 => ?_)
  · have hr := cnd_t c5 hr
    refine HT.seq ?_
    refine HT.text (l := ⟨_, true, .raw (.bool false)⟩ :: []) (tl := []) (by kernel_rfl) (by kernel_rfl) (by kernel_rfl) ?_ ?_
    · exact
        Obls.cons (Obl.plain rfl rfl fun R' w' hw hs hd => by exact of_assign rfl) <|
        Obls.nil
    intro R w hw hs hF'
    have h6 : R 6 = .bool false := hF' 0 _ _ rfl rfl rfl
    replace hO := hO.fr hw
    replace hO : IniOK [] A w := hO.sub [] trivial
    replace hA := hA.fr hw.size
    replace hF := hF.trans hw
    clear hs hF' hw
    refine seqR_nil ?_
    refine HT.ret ?_
    obtain rfl := Option.some.inj hr
    exact ⟨.inr rfl, [R 6], ⟨rfl, trivial⟩, h6, hF⟩
  · have hr := cnd_f c5 hr
    refine HT.skip ?_
    refine HT.seq ?_
    refine HT.seq ?_
    refine HT.text (l := ⟨_, true, .raw (.int .i64 p2)⟩ :: ⟨_, true, .raw (.bool (decide (p2 < (2 : Int))))⟩ :: []) (tl := []) (by kernel_rfl) (by kernel_rfl) (by kernel_rfl) ?_ ?_
    · exact
        Obls.cons (Obl.plain rfl rfl fun R' w' hw hs hd => by have a0 : R' 2 = .int .i64 p2 := (hs 2 rfl).trans h2; exact of_move a0) <|
        Obls.cons (Obl.plain rfl rfl fun R' w' hw hs hd => by have a0 : R' 14 = .int .i64 p2 := hd 0 _ _ _ rfl rfl rfl rfl rfl; exact of_lss a0 rfl) <|
        Obls.nil
    intro R w hw hs hF'
    replace h1 : R 1 = .int .i64 p1 := (hs 1 rfl).trans h1
    replace h2 : R 2 = .int .i64 p2 := (hs 2 rfl).trans h2
    replace h3 : R 3 = (.pointer (some ⟨b3_0, 0, none⟩)) := (hs 3 rfl).trans h3
    have h15 : R 15 = .bool (decide (p2 < (2 : Int))) := hF' 1 _ _ rfl rfl rfl
    replace hO := hO.fr hw
    replace hA := hA.fr hw.size
    replace hF := hF.trans hw
    clear hs hF' hw
    refine seqR_nil ?_
    refine HT.cond (decide (p2 < (2 : Int))) h15 (fun c6 => ?_) (fun c6 => ?_)
    · have hr := cnd_t c6 hr
      refine HT.seq ?_
      refine HT.text (l := ⟨_, true, .raw (.bool true)⟩ :: []) (tl := []) (by kernel_rfl) (by kernel_rfl) (by kernel_rfl) ?_ ?_
      · exact
          Obls.cons (Obl.plain rfl rfl fun R' w' hw hs hd => by exact of_assign rfl) <|
          Obls.nil
      intro R w hw hs hF'
      have h6 : R 6 = .bool true := hF' 0 _ _ rfl rfl rfl
      replace hO := hO.fr hw
      replace hO : IniOK [] A w := hO.sub [] trivial
      replace hA := hA.fr hw.size
      replace hF := hF.trans hw
      clear hs hF' hw
      refine seqR_nil ?_
      refine HT.ret ?_
      obtain rfl := Option.some.inj hr
      exact ⟨.inr rfl, [R 6], ⟨rfl, trivial⟩, h6, hF⟩
    · have hr := cnd_f c6 hr
      refine HT.skip ?_
      refine HT.seq ?_
      obtain ⟨e7, hr⟩ := ck_some hr
      obtain ⟨e8, hr⟩ := ck_some hr
      obtain ⟨e9, hr⟩ := ck_some hr
      refine HT.drawR [((.pointer (some ⟨b3_0, 0, none⟩)), .box w0.heap.size 43 E_impl_Diagram p0)] (⟨_, true, none, none, true, fun A => .raw (.pointer (some ⟨b3_0, 1, none⟩))⟩ :: ⟨_, true, none, none, true, fun A => .rep (eSl E_impl_DiagramNode) A p0.2⟩ :: ⟨_, true, none, none, true, fun A => .raw (.int .i64 p1)⟩ :: ⟨_, true, none, none, true, fun A => .qtr E_impl_DiagramNode A (gtD p0.2 p1)⟩ :: ⟨_, true, none, none, true, fun A => .rep E_impl_DiagramNode A (gtD p0.2 p1)⟩ :: ⟨_, true, none, none, true, fun A => .raw (.pointer (some ⟨b3_0, 1, none⟩))⟩ :: ⟨_, true, none, none, true, fun A => .rep (eSl E_impl_DiagramNode) A p0.2⟩ :: ⟨_, true, none, none, true, fun A => .raw (.int .i64 p2)⟩ :: ⟨_, true, none, none, true, fun A => .raw (.int .i64 (p2 - (2 : Int)))⟩ :: ⟨_, true, none, none, true, fun A => .qtr E_impl_DiagramNode A (gtD p0.2 (p2 - (2 : Int)))⟩ :: ⟨_, true, none, none, true, fun A => .rep E_impl_DiagramNode A (gtD p0.2 (p2 - (2 : Int)))⟩ :: ⟨_, true, none, some (.box w0.heap.size 92 E_impl_DiagramNode ((0 : Int), ((0 : Int), ((0 : Int), (0 : Int))))), true, fun A => .any⟩ :: ⟨_, true, none, some (.box w0.heap.size 92 E_impl_DiagramNode ((0 : Int), ((0 : Int), ((0 : Int), (0 : Int))))), true, fun A => .any⟩ :: ⟨_, true, some 12, some (.box w0.heap.size 92 E_impl_DiagramNode (gtD p0.2 p1)), false, fun A => .any⟩ :: ⟨_, true, some 13, some (.box w0.heap.size 92 E_impl_DiagramNode (gtD p0.2 (p2 - (2 : Int)))), false, fun A => .any⟩ :: []) (by kernel_rfl) (by kernel_rfl) (by kernel_rfl) (Wf.mk' (by kernel_rfl) (UAll.cons ust_raw (UAll.cons ust_rep (UAll.cons ust_raw (UAll.cons ust_qtr (UAll.cons ust_rep (UAll.cons ust_raw (UAll.cons ust_rep (UAll.cons ust_raw (UAll.cons ust_raw (UAll.cons ust_qtr (UAll.cons ust_rep (UAll.cons ust_any (UAll.cons ust_any (UAll.cons ust_any (UAll.cons ust_any (UAll.nil)))))))))))))))) (by kernel_rfl) (by kernel_rfl)) hO hA ?_ ?_
      · exact
          OblsR.cons (OblR.plain rfl rfl rfl rfl fun A' R' w' ho hd => by have a0 : R' 3 = (.pointer (some ⟨b3_0, 0, none⟩)) := (ho.old 3 rfl).trans h3; exact of_fieldAddr_raw a0 ff_43_1 Try.sizeOf41 (by decide) rfl) <|
          OblsR.cons (OblR.plain rfl rfl rfl rfl fun A' R' w' ho hd => by have a0 : R' 16 = (.pointer (some ⟨b3_0, 1, none⟩)) := hd 0 _ _ _ rfl rfl rfl rfl rfl; exact (of_load_box (ho.rd 0 _ rfl rfl) a0 fl_impl_Diagram_1 rfl Try.isAgg41 Try.sizeOf41)) <|
          OblsR.cons (OblR.plain rfl rfl rfl rfl fun A' R' w' ho hd => by have a0 : R' 1 = .int .i64 p1 := (ho.old 1 rfl).trans h1; exact of_move a0) <|
          OblsR.cons (OblR.plain rfl rfl rfl rfl fun A' R' w' ho hd => by have a0 : Rep (eSl E_impl_DiagramNode) A' w' (R' 17) p0.2 := hd 0 _ _ _ rfl rfl rfl rfl rfl; have a1 : R' 18 = .int .i64 p1 := hd 1 _ _ _ rfl rfl rfl rfl rfl; exact of_indexAddr a0 a1 Try.underlying41 Try.sizeOf92 e7) <|
          OblsR.cons (OblR.plain rfl rfl rfl rfl fun A' R' w' ho hd => by have a0 : QRep E_impl_DiagramNode A' w' (R' 19) (gtD p0.2 p1) := hd 0 _ _ _ rfl rfl rfl rfl rfl; exact (of_load a0.ptr Try.isAgg92 Try.sizeOf92)) <|
          OblsR.cons (OblR.plain rfl rfl rfl rfl fun A' R' w' ho hd => by have a0 : R' 3 = (.pointer (some ⟨b3_0, 0, none⟩)) := (ho.old 3 rfl).trans h3; exact of_fieldAddr_raw a0 ff_43_1 Try.sizeOf41 (by decide) rfl) <|
          OblsR.cons (OblR.plain rfl rfl rfl rfl fun A' R' w' ho hd => by have a0 : R' 21 = (.pointer (some ⟨b3_0, 1, none⟩)) := hd 0 _ _ _ rfl rfl rfl rfl rfl; exact (of_load_box (ho.rd 0 _ rfl rfl) a0 fl_impl_Diagram_1 rfl Try.isAgg41 Try.sizeOf41)) <|
          OblsR.cons (OblR.plain rfl rfl rfl rfl fun A' R' w' ho hd => by have a0 : R' 2 = .int .i64 p2 := (ho.old 2 rfl).trans h2; exact of_move a0) <|
          OblsR.cons (OblR.plain rfl rfl rfl rfl fun A' R' w' ho hd => by have a0 : R' 23 = .int .i64 p2 := hd 0 _ _ _ rfl rfl rfl rfl rfl; exact of_sub a0 rfl e8) <|
          OblsR.cons (OblR.plain rfl rfl rfl rfl fun A' R' w' ho hd => by have a0 : Rep (eSl E_impl_DiagramNode) A' w' (R' 22) p0.2 := hd 0 _ _ _ rfl rfl rfl rfl rfl; have a1 : R' 24 = .int .i64 (p2 - (2 : Int)) := hd 1 _ _ _ rfl rfl rfl rfl rfl; exact of_indexAddr a0 a1 Try.underlying41 Try.sizeOf92 e9) <|
          OblsR.cons (OblR.plain rfl rfl rfl rfl fun A' R' w' ho hd => by have a0 : QRep E_impl_DiagramNode A' w' (R' 25) (gtD p0.2 (p2 - (2 : Int))) := hd 0 _ _ _ rfl rfl rfl rfl rfl; exact (of_load a0.ptr Try.isAgg92 Try.sizeOf92)) <|
          OblsR.cons (OblR.made _ rfl rfl rfl rfl fun A' R' w' ho hd => by exact made_alloc Try.zeroValue92 (fun A w => rep_pr rep1_int (rep_pr rep1_int (rep_pr rep1_int rep1_int))) (Nat.le_trans hF.size ho.ch.size)) <|
          OblsR.cons (OblR.made _ rfl rfl rfl rfl fun A' R' w' ho hd => by exact made_alloc Try.zeroValue92 (fun A w => rep_pr rep1_int (rep_pr rep1_int (rep_pr rep1_int rep1_int))) (Nat.le_trans hF.size ho.ch.size)) <|
          OblsR.cons (OblR.took 12 _ _ rfl rfl rfl rfl rfl fun A' R' w' ho hd u hok hav hin hop => by have a1 : Rep E_impl_DiagramNode A' w' (R' 20) (gtD p0.2 p1) := hd 1 _ _ _ rfl rfl rfl rfl rfl; obtain ⟨b, hb, hB', hbx⟩ := hok; have hop' := hop _ _ rfl rfl rfl rfl; exact took_store a1 (hop'.symm.trans hb) hb ⟨b, hb, hB', hbx⟩ hav (FldS.id _) Try.sizeOf92 rfl) <|
          OblsR.cons (OblR.took 13 _ _ rfl rfl rfl rfl rfl fun A' R' w' ho hd u hok hav hin hop => by have a1 : Rep E_impl_DiagramNode A' w' (R' 26) (gtD p0.2 (p2 - (2 : Int))) := hd 1 _ _ _ rfl rfl rfl rfl rfl; obtain ⟨b, hb, hB', hbx⟩ := hok; have hop' := hop _ _ rfl rfl rfl rfl; exact took_store a1 (hop'.symm.trans hb) hb ⟨b, hb, hB', hbx⟩ hav (FldS.id _) Try.sizeOf92 rfl) <|
          OblsR.nil
      intro done ρ A R w hdn hI
      have z10 := hI.inivR 0 rfl
      obtain ⟨b7_10, e_b7_10⟩ := hI.boxv hdn 14 rfl rfl
      have z12 := (hI.opnR hdn 14 13 rfl rfl rfl rfl rfl).symm.trans e_b7_10
      have h7 : R 7 = (.pointer (some ⟨b7_10, 0, none⟩)) := (hI.opvR hdn 12 11 rfl rfl rfl rfl rfl).symm.trans z12
      obtain ⟨b8_12, e_b8_12⟩ := hI.boxv hdn 15 rfl rfl
      have z14 := (hI.opnR hdn 15 14 rfl rfl rfl rfl rfl).symm.trans e_b8_12
      have h8 : R 8 = (.pointer (some ⟨b8_12, 0, none⟩)) := (hI.opvR hdn 13 12 rfl rfl rfl rfl rfl).symm.trans z14
      replace hAA := hI.low' hAA hA0 (hO.ge (⟨rfl, trivial⟩))
      replace hF : Fr w0 w := Below.trans hF (hI.ch.below hF.size (hO.ge (⟨rfl, trivial⟩)))
      replace hO : IniOK [((.pointer (some ⟨b7_10, 0, none⟩)), .box w0.heap.size 92 E_impl_DiagramNode (gtD p0.2 p1)), ((.pointer (some ⟨b8_12, 0, none⟩)), .box w0.heap.size 92 E_impl_DiagramNode (gtD p0.2 (p2 - (2 : Int))))] A w := hI.left hdn [(14, (.pointer (some ⟨b7_10, 0, none⟩)), .box w0.heap.size 92 E_impl_DiagramNode (gtD p0.2 p1)), (15, (.pointer (some ⟨b8_12, 0, none⟩)), .box w0.heap.size 92 E_impl_DiagramNode (gtD p0.2 (p2 - (2 : Int))))] ⟨rfl, rfl, e_b7_10, rfl, ⟨rfl, rfl, e_b8_12, rfl, trivial⟩⟩
      replace hA := hI.avok
      clear hI
      refine HT.seq ?_
      obtain ⟨x15, q16, hr⟩ := bd_some hr
      obtain ⟨x17, q18, hr⟩ := bd_some hr
      refine HT.text (l := ⟨_, true, .raw (.pointer (some ⟨b8_12, 0, none⟩))⟩ :: ⟨_, true, .raw (.int .i64 ((gtD p0.2 (p2 - (2 : Int))).1))⟩ :: ⟨_, true, .raw (.pointer (some ⟨b7_10, 0, none⟩))⟩ :: ⟨_, true, .raw (.int .i64 ((gtD p0.2 p1).1))⟩ :: ⟨_, true, .raw (.bool (decide (((gtD p0.2 p1).1) < ((gtD p0.2 (p2 - (2 : Int))).1))))⟩ :: ⟨_, true, .raw (.bool (decide (((gtD p0.2 p1).1) < ((gtD p0.2 (p2 - (2 : Int))).1))))⟩ :: ⟨_, (true && ((decide (((gtD p0.2 p1).1) < ((gtD p0.2 (p2 - (2 : Int))).1))) == false)), .raw (.pointer (some ⟨b8_12, 0, none⟩))⟩ :: ⟨_, (true && ((decide (((gtD p0.2 p1).1) < ((gtD p0.2 (p2 - (2 : Int))).1))) == false)), .raw (.int .i64 ((gtD p0.2 (p2 - (2 : Int))).1))⟩ :: ⟨_, (true && ((decide (((gtD p0.2 p1).1) < ((gtD p0.2 (p2 - (2 : Int))).1))) == false)), .raw (.pointer (some ⟨b7_10, 0, none⟩))⟩ :: ⟨_, (true && ((decide (((gtD p0.2 p1).1) < ((gtD p0.2 (p2 - (2 : Int))).1))) == false)), .raw (.int .i64 ((gtD p0.2 p1).1))⟩ :: ⟨_, (true && ((decide (((gtD p0.2 p1).1) < ((gtD p0.2 (p2 - (2 : Int))).1))) == false)), .raw (.bool (((gtD p0.2 (p2 - (2 : Int))).1) == ((gtD p0.2 p1).1)))⟩ :: ⟨_, (true && ((decide (((gtD p0.2 p1).1) < ((gtD p0.2 (p2 - (2 : Int))).1))) == false)), .raw (.bool (((gtD p0.2 (p2 - (2 : Int))).1) == ((gtD p0.2 p1).1)))⟩ :: ⟨_, ((true && ((decide (((gtD p0.2 p1).1) < ((gtD p0.2 (p2 - (2 : Int))).1))) == false)) && ((((gtD p0.2 (p2 - (2 : Int))).1) == ((gtD p0.2 p1).1)) == true)), .raw (.pointer (some ⟨b8_12, 1, none⟩))⟩ :: ⟨_, ((true && ((decide (((gtD p0.2 p1).1) < ((gtD p0.2 (p2 - (2 : Int))).1))) == false)) && ((((gtD p0.2 (p2 - (2 : Int))).1) == ((gtD p0.2 p1).1)) == true)), .raw (.int .i64 ((gtD p0.2 (p2 - (2 : Int))).2.1))⟩ :: ⟨_, ((true && ((decide (((gtD p0.2 p1).1) < ((gtD p0.2 (p2 - (2 : Int))).1))) == false)) && ((((gtD p0.2 (p2 - (2 : Int))).1) == ((gtD p0.2 p1).1)) == true)), .raw (.pointer (some ⟨b7_10, 1, none⟩))⟩ :: ⟨_, ((true && ((decide (((gtD p0.2 p1).1) < ((gtD p0.2 (p2 - (2 : Int))).1))) == false)) && ((((gtD p0.2 (p2 - (2 : Int))).1) == ((gtD p0.2 p1).1)) == true)), .raw (.int .i64 ((gtD p0.2 p1).2.1))⟩ :: ⟨_, ((true && ((decide (((gtD p0.2 p1).1) < ((gtD p0.2 (p2 - (2 : Int))).1))) == false)) && ((((gtD p0.2 (p2 - (2 : Int))).1) == ((gtD p0.2 p1).1)) == true)), .raw (.bool (decide (((gtD p0.2 p1).2.1) < ((gtD p0.2 (p2 - (2 : Int))).2.1))))⟩ :: ⟨_, (true && ((decide (((gtD p0.2 p1).1) < ((gtD p0.2 (p2 - (2 : Int))).1))) == false)), .raw (.bool x15)⟩ :: ⟨_, true, .raw (.bool x17)⟩ :: ⟨_, true, .raw (.bool x17)⟩ :: []) (tl := []) (by kernel_rfl) (by kernel_rfl) (by kernel_rfl) ?_ ?_
      · exact
          Obls.cons (Obl.plain rfl rfl fun R' w' hw hs hd => by have a0 : R' 8 = (.pointer (some ⟨b8_12, 0, none⟩)) := (hs 8 rfl).trans h8; exact of_fieldAddr_raw a0 ff_92_0 Try.sizeOf3 (by decide) rfl) <|
          Obls.cons (Obl.plain rfl rfl fun R' w' hw hs hd => by have a0 : R' 27 = (.pointer (some ⟨b8_12, 0, none⟩)) := hd 0 _ _ _ rfl rfl rfl rfl rfl; exact OpF.int (of_load_box ((hO.fr hw).ok 1 _ rfl).1 a0 fl_impl_DiagramNode_0 rfl Try.isAgg3 Try.sizeOf3)) <|
          Obls.cons (Obl.plain rfl rfl fun R' w' hw hs hd => by have a0 : R' 7 = (.pointer (some ⟨b7_10, 0, none⟩)) := (hs 7 rfl).trans h7; exact of_fieldAddr_raw a0 ff_92_0 Try.sizeOf3 (by decide) rfl) <|
          Obls.cons (Obl.plain rfl rfl fun R' w' hw hs hd => by have a0 : R' 29 = (.pointer (some ⟨b7_10, 0, none⟩)) := hd 0 _ _ _ rfl rfl rfl rfl rfl; exact OpF.int (of_load_box ((hO.fr hw).ok 0 _ rfl).1 a0 fl_impl_DiagramNode_0 rfl Try.isAgg3 Try.sizeOf3)) <|
          Obls.cons (Obl.plain rfl rfl fun R' w' hw hs hd => by have a0 : R' 28 = .int .i64 ((gtD p0.2 (p2 - (2 : Int))).1) := hd 0 _ _ _ rfl rfl rfl rfl rfl; have a1 : R' 30 = .int .i64 ((gtD p0.2 p1).1) := hd 1 _ _ _ rfl rfl rfl rfl rfl; exact of_gtr a0 a1) <|
          Obls.cons (Obl.plain rfl rfl fun R' w' hw hs hd => by have a0 : R' 31 = .bool (decide (((gtD p0.2 p1).1) < ((gtD p0.2 (p2 - (2 : Int))).1))) := hd 0 _ _ _ rfl rfl rfl rfl rfl; exact of_move a0) <|
          Obls.cons (Obl.grd 5 false _ _ _ rfl rfl rfl rfl rfl (by kernel_rfl) fun hg R' w' hw hs hd => by have a0 : R' 8 = (.pointer (some ⟨b8_12, 0, none⟩)) := (hs 8 rfl).trans h8; exact of_fieldAddr_raw a0 ff_92_0 Try.sizeOf3 (by decide) rfl) <|
          Obls.cons (Obl.grd 5 false _ _ _ rfl rfl rfl rfl rfl (by kernel_rfl) fun hg R' w' hw hs hd => by have a0 : R' 33 = (.pointer (some ⟨b8_12, 0, none⟩)) := hd 0 _ _ _ rfl rfl rfl rfl hg; exact OpF.int (of_load_box ((hO.fr hw).ok 1 _ rfl).1 a0 fl_impl_DiagramNode_0 rfl Try.isAgg3 Try.sizeOf3)) <|
          Obls.cons (Obl.grd 5 false _ _ _ rfl rfl rfl rfl rfl (by kernel_rfl) fun hg R' w' hw hs hd => by have a0 : R' 7 = (.pointer (some ⟨b7_10, 0, none⟩)) := (hs 7 rfl).trans h7; exact of_fieldAddr_raw a0 ff_92_0 Try.sizeOf3 (by decide) rfl) <|
          Obls.cons (Obl.grd 5 false _ _ _ rfl rfl rfl rfl rfl (by kernel_rfl) fun hg R' w' hw hs hd => by have a0 : R' 35 = (.pointer (some ⟨b7_10, 0, none⟩)) := hd 0 _ _ _ rfl rfl rfl rfl hg; exact OpF.int (of_load_box ((hO.fr hw).ok 0 _ rfl).1 a0 fl_impl_DiagramNode_0 rfl Try.isAgg3 Try.sizeOf3)) <|
          Obls.cons (Obl.grd 5 false _ _ _ rfl rfl rfl rfl rfl (by kernel_rfl) fun hg R' w' hw hs hd => by have a0 : R' 34 = .int .i64 ((gtD p0.2 (p2 - (2 : Int))).1) := hd 0 _ _ _ rfl rfl rfl rfl hg; have a1 : R' 36 = .int .i64 ((gtD p0.2 p1).1) := hd 1 _ _ _ rfl rfl rfl rfl hg; exact of_eql a0 a1) <|
          Obls.cons (Obl.grd 5 false _ _ _ rfl rfl rfl rfl rfl (by kernel_rfl) fun hg R' w' hw hs hd => by have a0 : R' 37 = .bool (((gtD p0.2 (p2 - (2 : Int))).1) == ((gtD p0.2 p1).1)) := hd 0 _ _ _ rfl rfl rfl rfl hg; exact of_move a0) <|
          Obls.cons (Obl.grd 11 true _ _ _ rfl rfl rfl rfl rfl (by kernel_rfl) fun hg R' w' hw hs hd => by have a0 : R' 8 = (.pointer (some ⟨b8_12, 0, none⟩)) := (hs 8 rfl).trans h8; exact of_fieldAddr_raw a0 ff_92_1 Try.sizeOf3 (by decide) rfl) <|
          Obls.cons (Obl.grd 11 true _ _ _ rfl rfl rfl rfl rfl (by kernel_rfl) fun hg R' w' hw hs hd => by have a0 : R' 39 = (.pointer (some ⟨b8_12, 1, none⟩)) := hd 0 _ _ _ rfl rfl rfl rfl hg; exact OpF.int (of_load_box ((hO.fr hw).ok 1 _ rfl).1 a0 fl_impl_DiagramNode_1 rfl Try.isAgg3 Try.sizeOf3)) <|
          Obls.cons (Obl.grd 11 true _ _ _ rfl rfl rfl rfl rfl (by kernel_rfl) fun hg R' w' hw hs hd => by have a0 : R' 7 = (.pointer (some ⟨b7_10, 0, none⟩)) := (hs 7 rfl).trans h7; exact of_fieldAddr_raw a0 ff_92_1 Try.sizeOf3 (by decide) rfl) <|
          Obls.cons (Obl.grd 11 true _ _ _ rfl rfl rfl rfl rfl (by kernel_rfl) fun hg R' w' hw hs hd => by have a0 : R' 41 = (.pointer (some ⟨b7_10, 1, none⟩)) := hd 0 _ _ _ rfl rfl rfl rfl hg; exact OpF.int (of_load_box ((hO.fr hw).ok 0 _ rfl).1 a0 fl_impl_DiagramNode_1 rfl Try.isAgg3 Try.sizeOf3)) <|
          Obls.cons (Obl.grd 11 true _ _ _ rfl rfl rfl rfl rfl (by kernel_rfl) fun hg R' w' hw hs hd => by have a0 : R' 40 = .int .i64 ((gtD p0.2 (p2 - (2 : Int))).2.1) := hd 0 _ _ _ rfl rfl rfl rfl hg; have a1 : R' 42 = .int .i64 ((gtD p0.2 p1).2.1) := hd 1 _ _ _ rfl rfl rfl rfl hg; exact of_gtr a0 a1) <|
          Obls.cons (Obl.grd 5 false _ _ _ rfl rfl rfl rfl rfl (by kernel_rfl) fun hg R' w' hw hs hd => by have a0 : R' 38 = .bool (((gtD p0.2 (p2 - (2 : Int))).1) == ((gtD p0.2 p1).1)) := hd 0 _ _ _ rfl rfl rfl rfl hg; exact of_pick (((gtD p0.2 (p2 - (2 : Int))).1) == ((gtD p0.2 p1).1)) a0 (fun hc => by have a1 : R' 43 = .bool (decide (((gtD p0.2 p1).2.1) < ((gtD p0.2 (p2 - (2 : Int))).2.1))) := hd 1 _ _ _ rfl rfl rfl rfl (g_and hg (beq_of hc)); show _ = Value.bool x15; rw [q16, hc]; exact a1) (fun hc => by show _ = Value.bool x15; rw [q16, hc]; exact rfl)) <|
          Obls.cons (Obl.plain rfl rfl fun R' w' hw hs hd => by have a0 : R' 32 = .bool (decide (((gtD p0.2 p1).1) < ((gtD p0.2 (p2 - (2 : Int))).1))) := hd 0 _ _ _ rfl rfl rfl rfl rfl; exact of_pick (decide (((gtD p0.2 p1).1) < ((gtD p0.2 (p2 - (2 : Int))).1))) a0 (fun hc => by show _ = Value.bool x17; rw [q18, hc]; exact rfl) (fun hc => by have a2 : R' 44 = .bool x15 := hd 1 _ _ _ rfl rfl rfl rfl (g_and rfl (beq_of hc)); show _ = Value.bool x17; rw [q18, hc]; exact a2)) <|
          Obls.cons (Obl.plain rfl rfl fun R' w' hw hs hd => by have a0 : R' 45 = .bool x17 := hd 0 _ _ _ rfl rfl rfl rfl rfl; exact of_assign a0) <|
          Obls.nil
      intro R w hw hs hF'
      have h6 : R 6 = .bool x17 := hF' 19 _ _ rfl rfl rfl
      replace hO := hO.fr hw
      replace hO : IniOK [] A w := hO.sub [] trivial
      replace hA := hA.fr hw.size
      replace hF := hF.trans hw
      clear hs hF' hw
      refine seqR_nil ?_
      refine HT.ret ?_
      obtain rfl := Option.some.inj hr
      exact ⟨.inr rfl, [R 6], ⟨rfl, trivial⟩, h6, hF⟩
end Go.Proofs.Ytjfhlhhobpdneaa
