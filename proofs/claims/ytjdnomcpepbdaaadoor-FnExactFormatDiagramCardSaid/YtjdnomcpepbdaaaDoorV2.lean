/- Printed by dec.py: plain functions and the proofs that the code computes them. No statement of the seat is proved here. -/
import Derived.Test.YtjdnomcpepbdaaaDoorV1
namespace Go.Proofs.YtjdnomcpepbdaaaDoor
open Go.RowKit
set_option linter.unusedVariables false
set_option maxRecDepth 100000
set_option maxHeartbeats 4000000
def M_impl_Diagram_isChild (fu : Nat) (p0 : T_impl_Diagram) (p1 : Int) (p2 : Int) : Option Bool :=
 ck (i64B (p1 + (1 : Int))) <|
 cl true (M_impl_within fu p2 (0 : Int) (p1 + (1 : Int))) fun x3 =>
 bif (!x3) then (
  some false
 ) else (
  bif (decide (p2 < (2 : Int))) then (
   some true
  ) else (
   ck (inR p1 p0.2.length) <|
   ck (i64B (p2 - (2 : Int))) <|
   ck (inR (p2 - (2 : Int)) p0.2.length) <|
   bd ((((gtD p0.2 (p2 - (2 : Int))).1) == ((gtD p0.2 p1).1)) && (decide (((gtD p0.2 p1).2.1) < ((gtD p0.2 (p2 - (2 : Int))).2.1)))) fun x15 =>
   bd ((decide (((gtD p0.2 p1).1) < ((gtD p0.2 (p2 - (2 : Int))).1))) || x15) fun x17 =>
   some x17
  )
 )
theorem M_impl_Diagram_isChild_ok {fu : Nat} {A0 : Av} {p0 : T_impl_Diagram} {p1 : Int} {p2 : Int} {r : Bool} (hr : M_impl_Diagram_isChild fu p0 p1 p2 = some r) {w : World} {v0 : Value} {v1 : Value} {v2 : Value} (hA : AvOK A0 w) (h0 : Rep E_impl_Diagram A0 w v0 p0) (h1 : v1 = .int .i64 p1) (h2 : v2 = .int .i64 p2) :
  Calls Tryd.prog 69 #[v0, v1, v2] w fun e w' => ∃ v, e = .returned v ∧ (v = .bool r ∧ Fr w w') := by
 unfold M_impl_Diagram_isChild at hr
 obtain ⟨w0, hw0⟩ : ∃ w0, w0 = w := ⟨_, rfl⟩
 have hF : Fr w0 w := hw0 ▸ Fr.refl _
 have hA0 : ∀ b o, A0 b o → b < w0.heap.size := fun b o h => hw0 ▸ hA b o h
 have hA00 : AvOK A0 w0 := hA0
 rw [show Fr w = Fr w0 from hw0 ▸ rfl]
 clear hw0
 obtain ⟨A, hAe⟩ : ∃ A, A = A0 := ⟨_, rfl⟩
 have hAA : ∀ b o, A0 b o → A b o := fun b o h => hAe ▸ h
 replace hA : AvOK A w := hAe ▸ hA
 have hO : IniOK [] A w := IniOK.nil
 refine calls_of_HT2 [.tmp 6] Tryd.func69 Tryd.ntmps69 (by decide) rfl rfl (Nat.le_of_ble_eq_true rfl) ?_
 intro R hR
 have f_v0 : Rep E_impl_Diagram A w v0 p0 := hAe ▸ h0
 replace h0 : R 0 = v0 := hR 0 _ rfl
 replace h1 : R 1 = .int .i64 p1 := (hR 1 _ rfl).trans h1
 replace h2 : R 2 = .int .i64 p2 := (hR 2 _ rfl).trans h2
 clear hR hAe
 refine HT.seq ?_
 refine HT.textR [] (⟨_, true, [], some (.box w0.heap.size 34 E_impl_Diagram p0), true, fun A => .any⟩ :: ⟨_, true, [], none, true, fun A => .raw (.bool false)⟩ :: []) (by kernel_rfl) (by kernel_rfl) (Wf.mk' (by kernel_rfl) (UAll.cons ust_any (UAll.cons ust_raw (UAll.nil))) (by kernel_rfl) (by kernel_rfl)) hO hA ?_ ?_
 ·exact
   OblsR.cons (OblR.made _ rfl rfl rfl rfl fun A' R' w' ho hd => by have a0 : R' 0 = v0 := (ho.old 0 rfl).trans h0; have ra0 := (f_v0.stp ho.stp).eq a0; exact made_box ra0 (Nat.le_trans hF.size ho.ch.size)) <|
   OblsR.p (fun A' R' w' ho hd => of_assign rfl) <|
   OblsR.nil
 intro done ρ σ A R w hdn hI
 replace h1 : R 1 = .int .i64 p1 := (hI.reg rfl).trans h1
 replace h2 : R 2 = .int .i64 p2 := (hI.reg rfl).trans h2
 obtain ⟨b3_0, e_b3_0⟩ := hI.boxv hdn 0 rfl rfl
 have h3 : R 3 = (.pointer (some ⟨b3_0, 0, none⟩)) := (hI.opvR hdn 0 0 rfl rfl rfl rfl rfl).symm.trans e_b3_0
 replace hAA := hI.low' hAA hA0 (hO.ge (trivial))
 replace hF : Fr w0 w := hF.tr hI.ch (hO.ge (trivial))
 replace hO : IniOK [ob (.pointer (some ⟨b3_0, 0, none⟩)) (.box w0.heap.size 34 E_impl_Diagram p0)] A w := hI.left hdn [(0, ob (.pointer (some ⟨b3_0, 0, none⟩)) (.box w0.heap.size 34 E_impl_Diagram p0))] ⟨rfl, rfl, e_b3_0, rfl, rfl, trivial⟩
 replace hA := hI.avok
 clear hI
 refine HT.seq ?_
 refine HT.seq ?_
 obtain ⟨e2, hr⟩ := ck_some hr
 obtain ⟨x3, q4, hr⟩ := cl_some hr
 refine HT.text (l := ⟨_, true, .raw (.int .i64 p2)⟩ :: ⟨_, true, .raw (.int .i64 p1)⟩ :: ⟨_, true, .raw (.int .i64 (p1 + (1 : Int)))⟩ :: ⟨_, true, .raw (.bool x3)⟩ :: ⟨_, true, .raw (.bool (!x3))⟩ :: []) (tl := []) (by kernel_rfl) (by kernel_rfl) (by kernel_rfl) ?_ ?_
 ·exact
   Obls.p (fun R' w' hw hs hd => of_move ((hs 2 rfl).trans h2)) <|
   Obls.p (fun R' w' hw hs hd => of_move ((hs 1 rfl).trans h1)) <|
   Obls.p (fun R' w' hw hs hd => by have a0 : R' 10 = .int .i64 p1 := hd.g 0 rfl; exact of_add a0 rfl e2) <|
   Obls.p (fun R' w' hw hs hd => by have a0 : R' 9 = .int .i64 p2 := hd.g 0 rfl; have a2 : R' 11 = .int .i64 (p1 + (1 : Int)) := hd.g 1 rfl; exact of_call Tryd.call59 (M_impl_within_ok (q4 rfl) (hA.fr hw.size) a0 rfl a2)) <|
   Obls.p (fun R' w' hw hs hd => by have a0 : R' 12 = .bool x3 := hd.g 0 rfl; exact of_not a0) <|
   Obls.nil
 intro R w hw hs hF'
 replace h1 := (hs 1 rfl).trans h1
 replace h2 := (hs 2 rfl).trans h2
 replace h3 := (hs 3 rfl).trans h3
 have h13 : R 13 = .bool (!x3) := hF' 4 _ _ rfl rfl rfl
 replace hO := hO.fr hw
 replace hA := hA.fr hw.size
 replace hF := hF.trans hw
 clear hs hF' hw
 refine seqR_nil ?_
 refine HT.cond (!x3) h13 (fun c5 => ?_) (fun c5 => ?_)
 ·have hr := cnd_t c5 hr
  refine HT.seq ?_
  refine HT.text (l := ⟨_, true, .raw (.bool false)⟩ :: []) (tl := []) (by kernel_rfl) (by kernel_rfl) (by kernel_rfl) ?_ ?_
  ·exact
    Obls.p (fun R' w' hw hs hd => of_assign rfl) <|
    Obls.nil
  intro R w hw hs hF'
  have h6 : R 6 = .bool false := hF' 0 _ _ rfl rfl rfl
  replace hO := hO.fr hw
  replace hO : IniOK [] A w := hO.sub [] trivial
  replace hA := hA.fr hw.size
  replace hF := hF.trans hw
  clear hs hF' hw
  refine seqR_nil ?_
  refine HT.ret ?_
  obtain rfl := Option.some.inj hr
  exact ⟨.inr rfl, [R 6], ⟨rfl, trivial⟩, h6, hF⟩
 ·have hr := cnd_f c5 hr
  refine HT.skip ?_
  refine HT.seq ?_
  refine HT.seq ?_
  refine HT.text (l := ⟨_, true, .raw (.int .i64 p2)⟩ :: ⟨_, true, .raw (.bool (decide (p2 < (2 : Int))))⟩ :: []) (tl := []) (by kernel_rfl) (by kernel_rfl) (by kernel_rfl) ?_ ?_
  ·exact
    Obls.p (fun R' w' hw hs hd => of_move ((hs 2 rfl).trans h2)) <|
    Obls.p (fun R' w' hw hs hd => by have a0 : R' 14 = .int .i64 p2 := hd.g 0 rfl; exact of_lss a0 rfl) <|
    Obls.nil
  intro R w hw hs hF'
  replace h1 := (hs 1 rfl).trans h1
  replace h2 := (hs 2 rfl).trans h2
  replace h3 := (hs 3 rfl).trans h3
  have h15 : R 15 = .bool (decide (p2 < (2 : Int))) := hF' 1 _ _ rfl rfl rfl
  replace hO := hO.fr hw
  replace hA := hA.fr hw.size
  replace hF := hF.trans hw
  clear hs hF' hw
  refine seqR_nil ?_
  refine HT.cond (decide (p2 < (2 : Int))) h15 (fun c6 => ?_) (fun c6 => ?_)
  ·have hr := cnd_t c6 hr
   refine HT.seq ?_
   refine HT.text (l := ⟨_, true, .raw (.bool true)⟩ :: []) (tl := []) (by kernel_rfl) (by kernel_rfl) (by kernel_rfl) ?_ ?_
   ·exact
     Obls.p (fun R' w' hw hs hd => of_assign rfl) <|
     Obls.nil
   intro R w hw hs hF'
   have h6 : R 6 = .bool true := hF' 0 _ _ rfl rfl rfl
   replace hO := hO.fr hw
   replace hO : IniOK [] A w := hO.sub [] trivial
   replace hA := hA.fr hw.size
   replace hF := hF.trans hw
   clear hs hF' hw
   refine seqR_nil ?_
   refine HT.ret ?_
   obtain rfl := Option.some.inj hr
   exact ⟨.inr rfl, [R 6], ⟨rfl, trivial⟩, h6, hF⟩
  ·have hr := cnd_f c6 hr
   refine HT.skip ?_
   refine HT.seq ?_
   obtain ⟨e7, hr⟩ := ck_some hr
   obtain ⟨e8, hr⟩ := ck_some hr
   obtain ⟨e9, hr⟩ := ck_some hr
   refine HT.drawR [ob (.pointer (some ⟨b3_0, 0, none⟩)) (.box w0.heap.size 34 E_impl_Diagram p0)] (⟨_, true, [], none, true, fun A => .raw (.pointer (some ⟨b3_0, 1, none⟩))⟩ :: ⟨_, true, [], none, true, fun A => .rep (eSl E_impl_DiagramNode) A p0.2⟩ :: ⟨_, true, [], none, true, fun A => .raw (.int .i64 p1)⟩ :: ⟨_, true, [], none, true, fun A => .qtr E_impl_DiagramNode A (gtD p0.2 p1)⟩ :: ⟨_, true, [], none, true, fun A => .rep E_impl_DiagramNode A (gtD p0.2 p1)⟩ :: ⟨_, true, [], none, true, fun A => .raw (.pointer (some ⟨b3_0, 1, none⟩))⟩ :: ⟨_, true, [], none, true, fun A => .rep (eSl E_impl_DiagramNode) A p0.2⟩ :: ⟨_, true, [], none, true, fun A => .raw (.int .i64 p2)⟩ :: ⟨_, true, [], none, true, fun A => .raw (.int .i64 (p2 - (2 : Int)))⟩ :: ⟨_, true, [], none, true, fun A => .qtr E_impl_DiagramNode A (gtD p0.2 (p2 - (2 : Int)))⟩ :: ⟨_, true, [], none, true, fun A => .rep E_impl_DiagramNode A (gtD p0.2 (p2 - (2 : Int)))⟩ :: ⟨_, true, [], some (.box w0.heap.size 63 E_impl_DiagramNode ((0 : Int), ((0 : Int), ((0 : Int), (0 : Int))))), true, fun A => .any⟩ :: ⟨_, true, [], some (.box w0.heap.size 63 E_impl_DiagramNode ((0 : Int), ((0 : Int), ((0 : Int), (0 : Int))))), true, fun A => .any⟩ :: ⟨_, true, [12], some (.box w0.heap.size 63 E_impl_DiagramNode (gtD p0.2 p1)), false, fun A => .any⟩ :: ⟨_, true, [13], some (.box w0.heap.size 63 E_impl_DiagramNode (gtD p0.2 (p2 - (2 : Int)))), false, fun A => .any⟩ :: []) (by kernel_rfl) (by kernel_rfl) (by kernel_rfl) (Wf.mk' (by kernel_rfl) (UAll.cons ust_raw (UAll.cons ust_rep (UAll.cons ust_raw (UAll.cons ust_qtr (UAll.cons ust_rep (UAll.cons ust_raw (UAll.cons ust_rep (UAll.cons ust_raw (UAll.cons ust_raw (UAll.cons ust_qtr (UAll.cons ust_rep (UAll.cons ust_any (UAll.cons ust_any (UAll.cons ust_any (UAll.cons ust_any (UAll.nil)))))))))))))))) (by kernel_rfl) (by kernel_rfl)) hO hA ?_ ?_
   ·exact
     OblsR.p (fun A' R' w' ho hd => of_fieldAddr_raw ((ho.old 3 rfl).trans h3) ff_34_1 Tryd.sizeOf32 (by decide) rfl) <|
     OblsR.p (fun A' R' w' ho hd => by have a0 : R' 16 = (.pointer (some ⟨b3_0, 1, none⟩)) := hd.g 0 rfl; exact (of_load_box (ho.rd 0 _ rfl rfl) a0 fl_impl_Diagram_1 rfl Tryd.isAgg32 Tryd.sizeOf32)) <|
     OblsR.p (fun A' R' w' ho hd => of_move ((ho.old 1 rfl).trans h1)) <|
     OblsR.p (fun A' R' w' ho hd => by have a0 : Rep (eSl E_impl_DiagramNode) A' w' (R' 17) p0.2 := hd.g 0 rfl; have a1 : R' 18 = .int .i64 p1 := hd.g 1 rfl; exact of_indexAddr a0 a1 Tryd.underlying32 Tryd.sizeOf63 e7) <|
     OblsR.p (fun A' R' w' ho hd => by have a0 : QRep E_impl_DiagramNode A' w' (R' 19) (gtD p0.2 p1) := hd.g 0 rfl; exact (of_load a0.ptr Tryd.isAgg63 Tryd.sizeOf63)) <|
     OblsR.p (fun A' R' w' ho hd => of_fieldAddr_raw ((ho.old 3 rfl).trans h3) ff_34_1 Tryd.sizeOf32 (by decide) rfl) <|
     OblsR.p (fun A' R' w' ho hd => by have a0 : R' 21 = (.pointer (some ⟨b3_0, 1, none⟩)) := hd.g 0 rfl; exact (of_load_box (ho.rd 0 _ rfl rfl) a0 fl_impl_Diagram_1 rfl Tryd.isAgg32 Tryd.sizeOf32)) <|
     OblsR.p (fun A' R' w' ho hd => of_move ((ho.old 2 rfl).trans h2)) <|
     OblsR.p (fun A' R' w' ho hd => by have a0 : R' 23 = .int .i64 p2 := hd.g 0 rfl; exact of_sub a0 rfl e8) <|
     OblsR.p (fun A' R' w' ho hd => by have a0 : Rep (eSl E_impl_DiagramNode) A' w' (R' 22) p0.2 := hd.g 0 rfl; have a1 : R' 24 = .int .i64 (p2 - (2 : Int)) := hd.g 1 rfl; exact of_indexAddr a0 a1 Tryd.underlying32 Tryd.sizeOf63 e9) <|
     OblsR.p (fun A' R' w' ho hd => by have a0 : QRep E_impl_DiagramNode A' w' (R' 25) (gtD p0.2 (p2 - (2 : Int))) := hd.g 0 rfl; exact (of_load a0.ptr Tryd.isAgg63 Tryd.sizeOf63)) <|
     OblsR.cons (OblR.made _ rfl rfl rfl rfl fun A' R' w' ho hd => by exact made_alloc Tryd.zeroValue63 (fun A w => rep_pr rep1_int (rep_pr rep1_int (rep_pr rep1_int rep1_int))) (Nat.le_trans hF.size ho.ch.size)) <|
     OblsR.cons (OblR.made _ rfl rfl rfl rfl fun A' R' w' ho hd => by exact made_alloc Tryd.zeroValue63 (fun A w => rep_pr rep1_int (rep_pr rep1_int (rep_pr rep1_int rep1_int))) (Nat.le_trans hF.size ho.ch.size)) <|
     OblsR.cons (OblR.took 12 _ _ rfl rfl rfl rfl rfl fun A' R' w' ho hd u hok hav hin hop hds => by have a1 : Rep E_impl_DiagramNode A' w' (R' 20) (gtD p0.2 p1) := hd.g 1 rfl; obtain ⟨b, hb, hB', hbx⟩ := hok; have hop' := hop _ _ rfl rfl rfl rfl; exact took_store a1 (hop'.symm.trans hb) hb ⟨b, hb, hB', hbx⟩ hav (FldS.id _) Tryd.sizeOf63 rfl) <|
     OblsR.cons (OblR.took 13 _ _ rfl rfl rfl rfl rfl fun A' R' w' ho hd u hok hav hin hop hds => by have a1 : Rep E_impl_DiagramNode A' w' (R' 26) (gtD p0.2 (p2 - (2 : Int))) := hd.g 1 rfl; obtain ⟨b, hb, hB', hbx⟩ := hok; have hop' := hop _ _ rfl rfl rfl rfl; exact took_store a1 (hop'.symm.trans hb) hb ⟨b, hb, hB', hbx⟩ hav (FldS.id _) Tryd.sizeOf63 rfl) <|
     OblsR.nil
   intro done ρ σ A R w hdn hI
   have z10 := hI.inivR 0 rfl
   obtain ⟨b7_10, e_b7_10⟩ := hI.boxv hdn 14 rfl rfl
   have z12 := (hI.opnR hdn 14 13 rfl rfl rfl rfl rfl).symm.trans e_b7_10
   have h7 : R 7 = (.pointer (some ⟨b7_10, 0, none⟩)) := (hI.opvR hdn 12 11 rfl rfl rfl rfl rfl).symm.trans z12
   obtain ⟨b8_12, e_b8_12⟩ := hI.boxv hdn 15 rfl rfl
   have z14 := (hI.opnR hdn 15 14 rfl rfl rfl rfl rfl).symm.trans e_b8_12
   have h8 : R 8 = (.pointer (some ⟨b8_12, 0, none⟩)) := (hI.opvR hdn 13 12 rfl rfl rfl rfl rfl).symm.trans z14
   replace hAA := hI.low' hAA hA0 (hO.ge (⟨rfl, trivial⟩))
   replace hF : Fr w0 w := hF.tr hI.ch (hO.ge (⟨rfl, trivial⟩))
   replace hO : IniOK [ob (.pointer (some ⟨b7_10, 0, none⟩)) (.box w0.heap.size 63 E_impl_DiagramNode (gtD p0.2 p1)), ob (.pointer (some ⟨b8_12, 0, none⟩)) (.box w0.heap.size 63 E_impl_DiagramNode (gtD p0.2 (p2 - (2 : Int))))] A w := hI.left hdn [(14, ob (.pointer (some ⟨b7_10, 0, none⟩)) (.box w0.heap.size 63 E_impl_DiagramNode (gtD p0.2 p1))), (15, ob (.pointer (some ⟨b8_12, 0, none⟩)) (.box w0.heap.size 63 E_impl_DiagramNode (gtD p0.2 (p2 - (2 : Int)))))] ⟨rfl, rfl, e_b7_10, rfl, rfl, ⟨rfl, rfl, e_b8_12, rfl, rfl, trivial⟩⟩
   replace hA := hI.avok
   clear hI
   refine HT.seq ?_
   obtain ⟨x15, q16, hr⟩ := bd_some hr
   obtain ⟨x17, q18, hr⟩ := bd_some hr
   refine HT.text (l := ⟨_, true, .raw (.pointer (some ⟨b8_12, 0, none⟩))⟩ :: ⟨_, true, .raw (.int .i64 ((gtD p0.2 (p2 - (2 : Int))).1))⟩ :: ⟨_, true, .raw (.pointer (some ⟨b7_10, 0, none⟩))⟩ :: ⟨_, true, .raw (.int .i64 ((gtD p0.2 p1).1))⟩ :: ⟨_, true, .raw (.bool (decide (((gtD p0.2 p1).1) < ((gtD p0.2 (p2 - (2 : Int))).1))))⟩ :: ⟨_, true, .raw (.bool (decide (((gtD p0.2 p1).1) < ((gtD p0.2 (p2 - (2 : Int))).1))))⟩ :: ⟨_, (true && ((decide (((gtD p0.2 p1).1) < ((gtD p0.2 (p2 - (2 : Int))).1))) == false)), .raw (.pointer (some ⟨b8_12, 0, none⟩))⟩ :: ⟨_, (true && ((decide (((gtD p0.2 p1).1) < ((gtD p0.2 (p2 - (2 : Int))).1))) == false)), .raw (.int .i64 ((gtD p0.2 (p2 - (2 : Int))).1))⟩ :: ⟨_, (true && ((decide (((gtD p0.2 p1).1) < ((gtD p0.2 (p2 - (2 : Int))).1))) == false)), .raw (.pointer (some ⟨b7_10, 0, none⟩))⟩ :: ⟨_, (true && ((decide (((gtD p0.2 p1).1) < ((gtD p0.2 (p2 - (2 : Int))).1))) == false)), .raw (.int .i64 ((gtD p0.2 p1).1))⟩ :: ⟨_, (true && ((decide (((gtD p0.2 p1).1) < ((gtD p0.2 (p2 - (2 : Int))).1))) == false)), .raw (.bool (((gtD p0.2 (p2 - (2 : Int))).1) == ((gtD p0.2 p1).1)))⟩ :: ⟨_, (true && ((decide (((gtD p0.2 p1).1) < ((gtD p0.2 (p2 - (2 : Int))).1))) == false)), .raw (.bool (((gtD p0.2 (p2 - (2 : Int))).1) == ((gtD p0.2 p1).1)))⟩ :: ⟨_, ((true && ((decide (((gtD p0.2 p1).1) < ((gtD p0.2 (p2 - (2 : Int))).1))) == false)) && ((((gtD p0.2 (p2 - (2 : Int))).1) == ((gtD p0.2 p1).1)) == true)), .raw (.pointer (some ⟨b8_12, 1, none⟩))⟩ :: ⟨_, ((true && ((decide (((gtD p0.2 p1).1) < ((gtD p0.2 (p2 - (2 : Int))).1))) == false)) && ((((gtD p0.2 (p2 - (2 : Int))).1) == ((gtD p0.2 p1).1)) == true)), .raw (.int .i64 ((gtD p0.2 (p2 - (2 : Int))).2.1))⟩ :: ⟨_, ((true && ((decide (((gtD p0.2 p1).1) < ((gtD p0.2 (p2 - (2 : Int))).1))) == false)) && ((((gtD p0.2 (p2 - (2 : Int))).1) == ((gtD p0.2 p1).1)) == true)), .raw (.pointer (some ⟨b7_10, 1, none⟩))⟩ :: ⟨_, ((true && ((decide (((gtD p0.2 p1).1) < ((gtD p0.2 (p2 - (2 : Int))).1))) == false)) && ((((gtD p0.2 (p2 - (2 : Int))).1) == ((gtD p0.2 p1).1)) == true)), .raw (.int .i64 ((gtD p0.2 p1).2.1))⟩ :: ⟨_, ((true && ((decide (((gtD p0.2 p1).1) < ((gtD p0.2 (p2 - (2 : Int))).1))) == false)) && ((((gtD p0.2 (p2 - (2 : Int))).1) == ((gtD p0.2 p1).1)) == true)), .raw (.bool (decide (((gtD p0.2 p1).2.1) < ((gtD p0.2 (p2 - (2 : Int))).2.1))))⟩ :: ⟨_, (true && ((decide (((gtD p0.2 p1).1) < ((gtD p0.2 (p2 - (2 : Int))).1))) == false)), .raw (.bool x15)⟩ :: ⟨_, true, .raw (.bool x17)⟩ :: ⟨_, true, .raw (.bool x17)⟩ :: []) (tl := []) (by kernel_rfl) (by kernel_rfl) (by kernel_rfl) ?_ ?_
   ·exact
     Obls.p (fun R' w' hw hs hd => of_fieldAddr_raw ((hs 8 rfl).trans h8) ff_63_0 Tryd.sizeOf3 (by decide) rfl) <|
     Obls.p (fun R' w' hw hs hd => by have a0 : R' 27 = (.pointer (some ⟨b8_12, 0, none⟩)) := hd.g 0 rfl; exact OpF.int (of_load_box ((hO.fr hw).ok 1 _ rfl).1 a0 fl_impl_DiagramNode_0 rfl Tryd.isAgg3 Tryd.sizeOf3)) <|
     Obls.p (fun R' w' hw hs hd => of_fieldAddr_raw ((hs 7 rfl).trans h7) ff_63_0 Tryd.sizeOf3 (by decide) rfl) <|
     Obls.p (fun R' w' hw hs hd => by have a0 : R' 29 = (.pointer (some ⟨b7_10, 0, none⟩)) := hd.g 0 rfl; exact OpF.int (of_load_box ((hO.fr hw).ok 0 _ rfl).1 a0 fl_impl_DiagramNode_0 rfl Tryd.isAgg3 Tryd.sizeOf3)) <|
     Obls.p (fun R' w' hw hs hd => by have a0 : R' 28 = .int .i64 ((gtD p0.2 (p2 - (2 : Int))).1) := hd.g 0 rfl; have a1 : R' 30 = .int .i64 ((gtD p0.2 p1).1) := hd.g 1 rfl; exact of_gtr a0 a1) <|
     Obls.p (fun R' w' hw hs hd => by have a0 : R' 31 = .bool (decide (((gtD p0.2 p1).1) < ((gtD p0.2 (p2 - (2 : Int))).1))) := hd.g 0 rfl; exact of_move a0) <|
     Obls.cons (Obl.grd 5 false _ _ _ rfl rfl rfl rfl rfl (by kernel_rfl) fun hg R' w' hw hs hd => by have a0 : R' 8 = (.pointer (some ⟨b8_12, 0, none⟩)) := (hs 8 rfl).trans h8; exact of_fieldAddr_raw a0 ff_63_0 Tryd.sizeOf3 (by decide) rfl) <|
     Obls.cons (Obl.grd 5 false _ _ _ rfl rfl rfl rfl rfl (by kernel_rfl) fun hg R' w' hw hs hd => by have a0 : R' 33 = (.pointer (some ⟨b8_12, 0, none⟩)) := hd 0 _ _ _ rfl rfl rfl rfl hg; exact OpF.int (of_load_box ((hO.fr hw).ok 1 _ rfl).1 a0 fl_impl_DiagramNode_0 rfl Tryd.isAgg3 Tryd.sizeOf3)) <|
     Obls.cons (Obl.grd 5 false _ _ _ rfl rfl rfl rfl rfl (by kernel_rfl) fun hg R' w' hw hs hd => by have a0 : R' 7 = (.pointer (some ⟨b7_10, 0, none⟩)) := (hs 7 rfl).trans h7; exact of_fieldAddr_raw a0 ff_63_0 Tryd.sizeOf3 (by decide) rfl) <|
     Obls.cons (Obl.grd 5 false _ _ _ rfl rfl rfl rfl rfl (by kernel_rfl) fun hg R' w' hw hs hd => by have a0 : R' 35 = (.pointer (some ⟨b7_10, 0, none⟩)) := hd 0 _ _ _ rfl rfl rfl rfl hg; exact OpF.int (of_load_box ((hO.fr hw).ok 0 _ rfl).1 a0 fl_impl_DiagramNode_0 rfl Tryd.isAgg3 Tryd.sizeOf3)) <|
     Obls.cons (Obl.grd 5 false _ _ _ rfl rfl rfl rfl rfl (by kernel_rfl) fun hg R' w' hw hs hd => by have a0 : R' 34 = .int .i64 ((gtD p0.2 (p2 - (2 : Int))).1) := hd 0 _ _ _ rfl rfl rfl rfl hg; have a1 : R' 36 = .int .i64 ((gtD p0.2 p1).1) := hd 1 _ _ _ rfl rfl rfl rfl hg; exact of_eql a0 a1) <|
     Obls.cons (Obl.grd 5 false _ _ _ rfl rfl rfl rfl rfl (by kernel_rfl) fun hg R' w' hw hs hd => by have a0 : R' 37 = .bool (((gtD p0.2 (p2 - (2 : Int))).1) == ((gtD p0.2 p1).1)) := hd 0 _ _ _ rfl rfl rfl rfl hg; exact of_move a0) <|
     Obls.cons (Obl.grd 11 true _ _ _ rfl rfl rfl rfl rfl (by kernel_rfl) fun hg R' w' hw hs hd => by have a0 : R' 8 = (.pointer (some ⟨b8_12, 0, none⟩)) := (hs 8 rfl).trans h8; exact of_fieldAddr_raw a0 ff_63_1 Tryd.sizeOf3 (by decide) rfl) <|
     Obls.cons (Obl.grd 11 true _ _ _ rfl rfl rfl rfl rfl (by kernel_rfl) fun hg R' w' hw hs hd => by have a0 : R' 39 = (.pointer (some ⟨b8_12, 1, none⟩)) := hd 0 _ _ _ rfl rfl rfl rfl hg; exact OpF.int (of_load_box ((hO.fr hw).ok 1 _ rfl).1 a0 fl_impl_DiagramNode_1 rfl Tryd.isAgg3 Tryd.sizeOf3)) <|
     Obls.cons (Obl.grd 11 true _ _ _ rfl rfl rfl rfl rfl (by kernel_rfl) fun hg R' w' hw hs hd => by have a0 : R' 7 = (.pointer (some ⟨b7_10, 0, none⟩)) := (hs 7 rfl).trans h7; exact of_fieldAddr_raw a0 ff_63_1 Tryd.sizeOf3 (by decide) rfl) <|
     Obls.cons (Obl.grd 11 true _ _ _ rfl rfl rfl rfl rfl (by kernel_rfl) fun hg R' w' hw hs hd => by have a0 : R' 41 = (.pointer (some ⟨b7_10, 1, none⟩)) := hd 0 _ _ _ rfl rfl rfl rfl hg; exact OpF.int (of_load_box ((hO.fr hw).ok 0 _ rfl).1 a0 fl_impl_DiagramNode_1 rfl Tryd.isAgg3 Tryd.sizeOf3)) <|
     Obls.cons (Obl.grd 11 true _ _ _ rfl rfl rfl rfl rfl (by kernel_rfl) fun hg R' w' hw hs hd => by have a0 : R' 40 = .int .i64 ((gtD p0.2 (p2 - (2 : Int))).2.1) := hd 0 _ _ _ rfl rfl rfl rfl hg; have a1 : R' 42 = .int .i64 ((gtD p0.2 p1).2.1) := hd 1 _ _ _ rfl rfl rfl rfl hg; exact of_gtr a0 a1) <|
     Obls.cons (Obl.grd 5 false _ _ _ rfl rfl rfl rfl rfl (by kernel_rfl) fun hg R' w' hw hs hd => by have a0 : R' 38 = .bool (((gtD p0.2 (p2 - (2 : Int))).1) == ((gtD p0.2 p1).1)) := hd 0 _ _ _ rfl rfl rfl rfl hg; exact of_pick (((gtD p0.2 (p2 - (2 : Int))).1) == ((gtD p0.2 p1).1)) a0 (fun hc => by have a1 : R' 43 = .bool (decide (((gtD p0.2 p1).2.1) < ((gtD p0.2 (p2 - (2 : Int))).2.1))) := hd 1 _ _ _ rfl rfl rfl rfl (g_and hg (beq_of hc)); show _ = Value.bool x15; rw [q16, hc]; exact a1) (fun hc => by show _ = Value.bool x15; rw [q16, hc]; exact rfl)) <|
     Obls.p (fun R' w' hw hs hd => by have a0 : R' 32 = .bool (decide (((gtD p0.2 p1).1) < ((gtD p0.2 (p2 - (2 : Int))).1))) := hd.g 0 rfl; exact of_pick (decide (((gtD p0.2 p1).1) < ((gtD p0.2 (p2 - (2 : Int))).1))) a0 (fun hc => by show _ = Value.bool x17; rw [q18, hc]; exact rfl) (fun hc => by have a2 : R' 44 = .bool x15 := hd 1 _ _ _ rfl rfl rfl rfl (g_and rfl (beq_of hc)); show _ = Value.bool x17; rw [q18, hc]; exact a2)) <|
     Obls.p (fun R' w' hw hs hd => by have a0 : R' 45 = .bool x17 := hd.g 0 rfl; exact of_assign a0) <|
     Obls.nil
   intro R w hw hs hF'
   have h6 : R 6 = .bool x17 := hF' 19 _ _ rfl rfl rfl
   replace hO := hO.fr hw
   replace hO : IniOK [] A w := hO.sub [] trivial
   replace hA := hA.fr hw.size
   replace hF := hF.trans hw
   clear hs hF' hw
   refine seqR_nil ?_
   refine HT.ret ?_
   obtain rfl := Option.some.inj hr
   exact ⟨.inr rfl, [R 6], ⟨rfl, trivial⟩, h6, hF⟩
def M_impl_IsValidDiagram_L0 (fu : Nat) (p0 : T_impl_Diagram) : Nat → Int → Option (Ex Bool Unit)
 | 0, _ => none
 | k + 1, y12 =>
  bif (decide (y12 < (p0.2.length : Int))) then (
   ck (inR y12 p0.2.length) <|
   cl true (M_impl_isFeature fu ((gtD p0.2 y12).1)) fun x18 =>
   cl (true && ((!x18) == false)) (M_impl_isThreshold fu ((gtD p0.2 y12).2.1)) fun x20 =>
   bd ((!x18) || (!x20)) fun x22 =>
   bd (x22 || (((gtD p0.2 y12).2.2.1) == ((gtD p0.2 y12).2.2.2))) fun x24 =>
   ck (!(true && (x24 == false)) || subR 0 y12 p0.2.length) <|
   cl (true && (x24 == false)) (M_slices_Contains_impl_DiagramNode_impl_DiagramNode fu (subL p0.2 0 y12) (gtD p0.2 y12)) fun x27 =>
   bd (x24 || x27) fun x29 =>
   bif x29 then (
    some (Ex.ret false)
   ) else (
    cl true (M_impl_Diagram_isChild fu p0 y12 ((gtD p0.2 y12).2.2.1)) fun x32 =>
    cl (true && ((!x32) == false)) (M_impl_Diagram_isChild fu p0 y12 ((gtD p0.2 y12).2.2.2)) fun x34 =>
    bd ((!x32) || (!x34)) fun x36 =>
    bif x36 then (
     some (Ex.ret false)
    ) else (
     ck (i64B (y12 + (1 : Int))) <|
     M_impl_IsValidDiagram_L0 fu p0 k (y12 + (1 : Int))
    )
   )
  ) else (
   some (Ex.go ())
  )
def M_impl_IsValidDiagram (fu : Nat) (p0 : T_impl_Diagram) : Option Bool :=
 ck (!(true && ((decide ((200 : Int) < (p0.2.length : Int))) == false)) || i64B ((p0.2.length : Int) + (1 : Int))) <|
 cl (true && ((decide ((200 : Int) < (p0.2.length : Int))) == false)) (M_impl_within fu p0.1 (0 : Int) ((p0.2.length : Int) + (1 : Int))) fun x3 =>
 bd ((decide ((200 : Int) < (p0.2.length : Int))) || (!x3)) fun x5 =>
 bif x5 then (
  some false
 ) else (
  cl true (M_impl_IsValidDiagram_L0 fu p0 fu (0 : Int)) fun rl9 =>
  exM rl9 (fun r => some r) fun s11 =>
  some true
 )
theorem M_impl_IsValidDiagram_ok {fu : Nat} {A0 : Av} {p0 : T_impl_Diagram} {r : Bool} (hr : M_impl_IsValidDiagram fu p0 = some r) {w : World} {v0 : Value} (hA : AvOK A0 w) (h0 : Rep E_impl_Diagram A0 w v0 p0) :
  Calls Tryd.prog 39 #[v0] w fun e w' => ∃ v, e = .returned v ∧ (v = .bool r ∧ Fr w w') := by
 unfold M_impl_IsValidDiagram at hr
 obtain ⟨w0, hw0⟩ : ∃ w0, w0 = w := ⟨_, rfl⟩
 have hF : Fr w0 w := hw0 ▸ Fr.refl _
 have hA0 : ∀ b o, A0 b o → b < w0.heap.size := fun b o h => hw0 ▸ hA b o h
 have hA00 : AvOK A0 w0 := hA0
 rw [show Fr w = Fr w0 from hw0 ▸ rfl]
 clear hw0
 obtain ⟨A, hAe⟩ : ∃ A, A = A0 := ⟨_, rfl⟩
 have hAA : ∀ b o, A0 b o → A b o := fun b o h => hAe ▸ h
 replace hA : AvOK A w := hAe ▸ hA
 have hO : IniOK [] A w := IniOK.nil
 refine calls_of_HT2 [.tmp 2] Tryd.func39 Tryd.ntmps39 (by decide) rfl rfl (Nat.le_of_ble_eq_true rfl) ?_
 intro R hR
 have f_v0 : Rep E_impl_Diagram A w v0 p0 := hAe ▸ h0
 replace h0 : R 0 = v0 := hR 0 _ rfl
 clear hR hAe
 refine HT.seq ?_
 refine HT.textR [] (⟨_, true, [], some (.box w0.heap.size 34 E_impl_Diagram p0), true, fun A => .any⟩ :: ⟨_, true, [], none, true, fun A => .raw (.bool false)⟩ :: []) (by kernel_rfl) (by kernel_rfl) (Wf.mk' (by kernel_rfl) (UAll.cons ust_any (UAll.cons ust_raw (UAll.nil))) (by kernel_rfl) (by kernel_rfl)) hO hA ?_ ?_
 ·exact
   OblsR.cons (OblR.made _ rfl rfl rfl rfl fun A' R' w' ho hd => by have a0 : R' 0 = v0 := (ho.old 0 rfl).trans h0; have ra0 := (f_v0.stp ho.stp).eq a0; exact made_box ra0 (Nat.le_trans hF.size ho.ch.size)) <|
   OblsR.p (fun A' R' w' ho hd => of_assign rfl) <|
   OblsR.nil
 intro done ρ σ A R w hdn hI
 obtain ⟨b1_0, e_b1_0⟩ := hI.boxv hdn 0 rfl rfl
 have h1 : R 1 = (.pointer (some ⟨b1_0, 0, none⟩)) := (hI.opvR hdn 0 0 rfl rfl rfl rfl rfl).symm.trans e_b1_0
 replace hAA := hI.low' hAA hA0 (hO.ge (trivial))
 replace hF : Fr w0 w := hF.tr hI.ch (hO.ge (trivial))
 replace hO : IniOK [ob (.pointer (some ⟨b1_0, 0, none⟩)) (.box w0.heap.size 34 E_impl_Diagram p0)] A w := hI.left hdn [(0, ob (.pointer (some ⟨b1_0, 0, none⟩)) (.box w0.heap.size 34 E_impl_Diagram p0))] ⟨rfl, rfl, e_b1_0, rfl, rfl, trivial⟩
 replace hA := hI.avok
 clear hI
 refine HT.seq ?_
 refine HT.seq ?_
 obtain ⟨e2, hr⟩ := ck_some hr
 obtain ⟨x3, q4, hr⟩ := cl_some hr
 obtain ⟨x5, q6, hr⟩ := bd_some hr
 refine HT.text (l := ⟨_, true, .raw (.pointer (some ⟨b1_0, 1, none⟩))⟩ :: ⟨_, true, .rep (eSl E_impl_DiagramNode) A p0.2⟩ :: ⟨_, true, .raw (.int .i64 (p0.2.length : Int))⟩ :: ⟨_, true, .raw (.bool (decide ((200 : Int) < (p0.2.length : Int))))⟩ :: ⟨_, true, .raw (.bool (decide ((200 : Int) < (p0.2.length : Int))))⟩ :: ⟨_, (true && ((decide ((200 : Int) < (p0.2.length : Int))) == false)), .raw (.pointer (some ⟨b1_0, 0, none⟩))⟩ :: ⟨_, (true && ((decide ((200 : Int) < (p0.2.length : Int))) == false)), .raw (.int .i64 p0.1)⟩ :: ⟨_, (true && ((decide ((200 : Int) < (p0.2.length : Int))) == false)), .raw (.pointer (some ⟨b1_0, 1, none⟩))⟩ :: ⟨_, (true && ((decide ((200 : Int) < (p0.2.length : Int))) == false)), .rep (eSl E_impl_DiagramNode) A p0.2⟩ :: ⟨_, (true && ((decide ((200 : Int) < (p0.2.length : Int))) == false)), .raw (.int .i64 (p0.2.length : Int))⟩ :: ⟨_, (true && ((decide ((200 : Int) < (p0.2.length : Int))) == false)), .raw (.int .i64 ((p0.2.length : Int) + (1 : Int)))⟩ :: ⟨_, (true && ((decide ((200 : Int) < (p0.2.length : Int))) == false)), .raw (.bool x3)⟩ :: ⟨_, (true && ((decide ((200 : Int) < (p0.2.length : Int))) == false)), .raw (.bool (!x3))⟩ :: ⟨_, true, .raw (.bool x5)⟩ :: []) (tl := []) (by kernel_rfl) (by kernel_rfl) (by kernel_rfl) ?_ ?_
 ·exact
   Obls.p (fun R' w' hw hs hd => of_fieldAddr_raw ((hs 1 rfl).trans h1) ff_34_1 Tryd.sizeOf32 (by decide) rfl) <|
   Obls.p (fun R' w' hw hs hd => by have a0 : R' 5 = (.pointer (some ⟨b1_0, 1, none⟩)) := hd.g 0 rfl; exact (of_load_box ((hO.fr hw).ok 0 _ rfl).1 a0 fl_impl_Diagram_1 rfl Tryd.isAgg32 Tryd.sizeOf32)) <|
   Obls.p (fun R' w' hw hs hd => by have a0 : Rep (eSl E_impl_DiagramNode) A w' (R' 6) p0.2 := hd.g 0 rfl; exact of_len_sl (aT := #[]) a0 Tryd.underlying32) <|
   Obls.p (fun R' w' hw hs hd => by have a0 : R' 7 = .int .i64 (p0.2.length : Int) := hd.g 0 rfl; exact of_gtr a0 rfl) <|
   Obls.p (fun R' w' hw hs hd => by have a0 : R' 8 = .bool (decide ((200 : Int) < (p0.2.length : Int))) := hd.g 0 rfl; exact of_move a0) <|
   Obls.cons (Obl.grd 4 false _ _ _ rfl rfl rfl rfl rfl (by kernel_rfl) fun hg R' w' hw hs hd => by have a0 : R' 1 = (.pointer (some ⟨b1_0, 0, none⟩)) := (hs 1 rfl).trans h1; exact of_fieldAddr_raw a0 ff_34_0 Tryd.sizeOf3 (by decide) rfl) <|
   Obls.cons (Obl.grd 4 false _ _ _ rfl rfl rfl rfl rfl (by kernel_rfl) fun hg R' w' hw hs hd => by have a0 : R' 10 = (.pointer (some ⟨b1_0, 0, none⟩)) := hd 0 _ _ _ rfl rfl rfl rfl hg; exact OpF.int (of_load_box ((hO.fr hw).ok 0 _ rfl).1 a0 fl_impl_Diagram_0 rfl Tryd.isAgg3 Tryd.sizeOf3)) <|
   Obls.cons (Obl.grd 4 false _ _ _ rfl rfl rfl rfl rfl (by kernel_rfl) fun hg R' w' hw hs hd => by have a0 : R' 1 = (.pointer (some ⟨b1_0, 0, none⟩)) := (hs 1 rfl).trans h1; exact of_fieldAddr_raw a0 ff_34_1 Tryd.sizeOf32 (by decide) rfl) <|
   Obls.cons (Obl.grd 4 false _ _ _ rfl rfl rfl rfl rfl (by kernel_rfl) fun hg R' w' hw hs hd => by have a0 : R' 12 = (.pointer (some ⟨b1_0, 1, none⟩)) := hd 0 _ _ _ rfl rfl rfl rfl hg; exact (of_load_box ((hO.fr hw).ok 0 _ rfl).1 a0 fl_impl_Diagram_1 rfl Tryd.isAgg32 Tryd.sizeOf32)) <|
   Obls.cons (Obl.grd 4 false _ _ _ rfl rfl rfl rfl rfl (by kernel_rfl) fun hg R' w' hw hs hd => by have a0 : Rep (eSl E_impl_DiagramNode) A w' (R' 13) p0.2 := hd 0 _ _ _ rfl rfl rfl rfl hg; exact of_len_sl (aT := #[]) a0 Tryd.underlying32) <|
   Obls.cons (Obl.grd 4 false _ _ _ rfl rfl rfl rfl rfl (by kernel_rfl) fun hg R' w' hw hs hd => by have a0 : R' 14 = .int .i64 (p0.2.length : Int) := hd 0 _ _ _ rfl rfl rfl rfl hg; exact of_add a0 rfl (gd e2 hg)) <|
   Obls.cons (Obl.grd 4 false _ _ _ rfl rfl rfl rfl rfl (by kernel_rfl) fun hg R' w' hw hs hd => by have a0 : R' 11 = .int .i64 p0.1 := hd 0 _ _ _ rfl rfl rfl rfl hg; have a2 : R' 15 = .int .i64 ((p0.2.length : Int) + (1 : Int)) := hd 1 _ _ _ rfl rfl rfl rfl hg; exact of_call Tryd.call59 (M_impl_within_ok (q4 hg) (hA.fr hw.size) a0 rfl a2)) <|
   Obls.cons (Obl.grd 4 false _ _ _ rfl rfl rfl rfl rfl (by kernel_rfl) fun hg R' w' hw hs hd => by have a0 : R' 16 = .bool x3 := hd 0 _ _ _ rfl rfl rfl rfl hg; exact of_not a0) <|
   Obls.p (fun R' w' hw hs hd => by have a0 : R' 9 = .bool (decide ((200 : Int) < (p0.2.length : Int))) := hd.g 0 rfl; exact of_pick (decide ((200 : Int) < (p0.2.length : Int))) a0 (fun hc => by show _ = Value.bool x5; rw [q6, hc]; exact rfl) (fun hc => by have a2 : R' 17 = .bool (!x3) := hd 1 _ _ _ rfl rfl rfl rfl (g_and rfl (beq_of hc)); show _ = Value.bool x5; rw [q6, hc]; exact a2)) <|
   Obls.nil
 intro R w hw hs hF'
 replace h1 := (hs 1 rfl).trans h1
 have h18 : R 18 = .bool x5 := hF' 13 _ _ rfl rfl rfl
 replace hO := hO.fr hw
 replace hA := hA.fr hw.size
 replace hF := hF.trans hw
 clear hs hF' hw
 refine seqR_nil ?_
 refine HT.cond x5 h18 (fun c7 => ?_) (fun c7 => ?_)
 ·have hr := cnd_t c7 hr
  refine HT.seq ?_
  refine HT.text (l := ⟨_, true, .raw (.bool false)⟩ :: []) (tl := []) (by kernel_rfl) (by kernel_rfl) (by kernel_rfl) ?_ ?_
  ·exact
    Obls.p (fun R' w' hw hs hd => of_assign rfl) <|
    Obls.nil
  intro R w hw hs hF'
  have h2 : R 2 = .bool false := hF' 0 _ _ rfl rfl rfl
  replace hO := hO.fr hw
  replace hO : IniOK [] A w := hO.sub [] trivial
  replace hA := hA.fr hw.size
  replace hF := hF.trans hw
  clear hs hF' hw
  refine seqR_nil ?_
  refine HT.ret ?_
  obtain rfl := Option.some.inj hr
  exact ⟨.inr rfl, [R 2], ⟨rfl, trivial⟩, h2, hF⟩
 ·have hr := cnd_f c7 hr
  refine HT.skip ?_
  refine HT.seq ?_
  refine HT.seq ?_
  refine HT.text (l := ⟨_, true, .raw (.pointer (some ⟨b1_0, 1, none⟩))⟩ :: ⟨_, true, .rep (eSl E_impl_DiagramNode) A p0.2⟩ :: ⟨_, true, .raw (.int .i64 (p0.2.length : Int))⟩ :: ⟨_, true, .raw (.int .i64 (0 : Int))⟩ :: []) (tl := []) (by kernel_rfl) (by kernel_rfl) (by kernel_rfl) ?_ ?_
  ·exact
    Obls.p (fun R' w' hw hs hd => of_fieldAddr_raw ((hs 1 rfl).trans h1) ff_34_1 Tryd.sizeOf32 (by decide) rfl) <|
    Obls.p (fun R' w' hw hs hd => by have a0 : R' 19 = (.pointer (some ⟨b1_0, 1, none⟩)) := hd.g 0 rfl; exact (of_load_box ((hO.fr hw).ok 0 _ rfl).1 a0 fl_impl_Diagram_1 rfl Tryd.isAgg32 Tryd.sizeOf32)) <|
    Obls.p (fun R' w' hw hs hd => by have a0 : Rep (eSl E_impl_DiagramNode) A w' (R' 20) p0.2 := hd.g 0 rfl; exact of_len_sl (aT := #[]) a0 Tryd.underlying32) <|
    Obls.p (fun R' w' hw hs hd => of_move rfl) <|
    Obls.nil
  intro R w hw hs hF'
  replace h1 := (hs 1 rfl).trans h1
  obtain ⟨u8, h20, f_u8⟩ : ∃ u, R 20 = u ∧ Rep (eSl E_impl_DiagramNode) A w u p0.2 := ⟨_, rfl, hF' 1 _ _ rfl rfl rfl⟩
  have h21 : R 21 = .int .i64 (p0.2.length : Int) := hF' 2 _ _ rfl rfl rfl
  have h22 : R 22 = .int .i64 (0 : Int) := hF' 3 _ _ rfl rfl rfl
  replace hO := hO.fr hw
  replace hA := hA.fr hw.size
  replace hF := hF.trans hw
  clear hs hF' hw
  refine seqR_nil ?_
  obtain ⟨rl9, q10, hr⟩ := cl_some hr
  replace q10 := q10 rfl
  refine HT.cut0 (fun R w => ∃ A : Av, ∃ (s11 : Unit), rl9 = Ex.go s11 ∧ AvOK A w ∧ Fr w0 w ∧ (∀ b o, A0 b o → A b o) ∧ IniOK [] A w) ?_ ?_
  ·refine HT.block ?_
   refine HT.loop (fun k R w => ∃ A : Av, ∃ (y12 : Int), M_impl_IsValidDiagram_L0 fu p0 k y12 = some rl9 ∧ AvOK A w ∧ Fr w0 w ∧ (∀ b o, A0 b o → A b o) ∧ IniOK [ob (.pointer (some ⟨b1_0, 0, none⟩)) (.box w0.heap.size 34 E_impl_Diagram p0)] A w ∧ R 1 = (.pointer (some ⟨b1_0, 0, none⟩)) ∧ R 20 = u8 ∧ R 21 = .int .i64 (p0.2.length : Int) ∧ R 22 = .int .i64 y12 ∧ Rep (eSl E_impl_DiagramNode) A w u8 p0.2) fu ⟨_, _, q10, hA, hF, hAA, hO, h1, h20, h21, h22, f_u8⟩ ?_
   have hr0 := hr; clear hr q10
   rintro k R w ⟨A, y12, hr, hA, hF, hAA, hO, h1, h20, h21, h22, f_u8⟩
   rcases k with _ | k
   ·cases (show none = some _ from hr)
   rw [M_impl_IsValidDiagram_L0] at hr
   refine HT.seq ?_
   refine HT.text (l := ⟨_, true, .raw (.bool (decide (y12 < (p0.2.length : Int))))⟩ :: []) (tl := []) (by kernel_rfl) (by kernel_rfl) (by kernel_rfl) ?_ ?_
   ·exact
     Obls.p (fun R' w' hw hs hd => of_lss ((hs 22 rfl).trans h22) ((hs 21 rfl).trans h21)) <|
     Obls.nil
   intro R w hw hs hF'
   replace h1 := (hs 1 rfl).trans h1
   replace h20 := (hs 20 rfl).trans h20
   replace h21 := (hs 21 rfl).trans h21
   replace h22 := (hs 22 rfl).trans h22
   have h23 : R 23 = .bool (decide (y12 < (p0.2.length : Int))) := hF' 0 _ _ rfl rfl rfl
   replace f_u8 := f_u8.fr hw
   replace hO := hO.fr hw
   replace hA := hA.fr hw.size
   replace hF := hF.trans hw
   clear hs hF' hw
   refine seqR_nil ?_
   refine HT.seq ?_
   refine HT.cond (decide (y12 < (p0.2.length : Int))) h23 (fun c13 => ?_) (fun c13 => ?_)
   ·have hr := cnd_t c13 hr
    refine HT.skip ?_
    refine HT.seq ?_
    refine HT.block ?_
    refine HT.seq ?_
    obtain ⟨e14, hr⟩ := ck_some hr
    refine HT.textR [ob (.pointer (some ⟨b1_0, 0, none⟩)) (.box w0.heap.size 34 E_impl_Diagram p0)] (⟨_, true, [], none, true, fun A => .raw (.int .i64 y12)⟩ :: ⟨_, true, [], none, true, fun A => .qtr E_impl_DiagramNode A (gtD p0.2 y12)⟩ :: ⟨_, true, [], none, true, fun A => .rep E_impl_DiagramNode A (gtD p0.2 y12)⟩ :: ⟨_, true, [], some (.box w0.heap.size 63 E_impl_DiagramNode ((0 : Int), ((0 : Int), ((0 : Int), (0 : Int))))), true, fun A => .any⟩ :: ⟨_, true, [], none, true, fun A => .raw (.int .i64 y12)⟩ :: ⟨_, true, [4], some (.box w0.heap.size 63 E_impl_DiagramNode (gtD p0.2 y12)), false, fun A => .any⟩ :: []) (by kernel_rfl) (by kernel_rfl) (Wf.mk' (by kernel_rfl) (UAll.cons ust_raw (UAll.cons ust_qtr (UAll.cons ust_rep (UAll.cons ust_any (UAll.cons ust_raw (UAll.cons ust_any (UAll.nil))))))) (by kernel_rfl) (by kernel_rfl)) hO hA ?_ ?_
    ·exact
      OblsR.p (fun A' R' w' ho hd => of_move ((ho.old 22 rfl).trans h22)) <|
      OblsR.p (fun A' R' w' ho hd => by have ra0 := (f_u8.stp ho.stp).eq ((ho.old 20 rfl).trans h20); exact of_indexAddr ra0 ((ho.old 22 rfl).trans h22) Tryd.underlying32 Tryd.sizeOf63 e14) <|
      OblsR.p (fun A' R' w' ho hd => by have a0 : QRep E_impl_DiagramNode A' w' (R' 25) (gtD p0.2 y12) := hd.g 0 rfl; exact (of_load a0.ptr Tryd.isAgg63 Tryd.sizeOf63)) <|
      OblsR.cons (OblR.made _ rfl rfl rfl rfl fun A' R' w' ho hd => by exact made_alloc Tryd.zeroValue63 (fun A w => rep_pr rep1_int (rep_pr rep1_int (rep_pr rep1_int rep1_int))) (Nat.le_trans hF.size ho.ch.size)) <|
      OblsR.p (fun A' R' w' ho hd => by have a0 : R' 24 = .int .i64 y12 := hd.g 0 rfl; exact of_assign a0) <|
      OblsR.cons (OblR.took 4 _ _ rfl rfl rfl rfl rfl fun A' R' w' ho hd u hok hav hin hop hds => by have a1 : Rep E_impl_DiagramNode A' w' (R' 26) (gtD p0.2 y12) := hd.g 1 rfl; obtain ⟨b, hb, hB', hbx⟩ := hok; have hop' := hop _ _ rfl rfl rfl rfl; exact took_store a1 (hop'.symm.trans hb) hb ⟨b, hb, hB', hbx⟩ hav (FldS.id _) Tryd.sizeOf63 rfl) <|
      OblsR.nil
    intro done ρ σ A R w hdn hI
    replace h1 : R 1 = (.pointer (some ⟨b1_0, 0, none⟩)) := (hI.reg rfl).trans h1
    replace h20 : R 20 = u8 := (hI.reg rfl).trans h20
    replace h21 : R 21 = .int .i64 (p0.2.length : Int) := (hI.reg rfl).trans h21
    replace h22 : R 22 = .int .i64 y12 := (hI.reg rfl).trans h22
    have z15 := hI.inivR 0 rfl
    obtain ⟨b4_15, e_b4_15⟩ := hI.boxv hdn 6 rfl rfl
    have z17 := (hI.opnR hdn 6 5 rfl rfl rfl rfl rfl).symm.trans e_b4_15
    have h4 : R 4 = (.pointer (some ⟨b4_15, 0, none⟩)) := (hI.opvR hdn 4 3 rfl rfl rfl rfl rfl).symm.trans z17
    have h3 : R 3 = .int .i64 y12 := hI.fact hdn (i := 4) rfl rfl rfl
    replace f_u8 := f_u8.stp hI.stp
    replace hAA := hI.low' hAA hA0 (hO.ge (⟨rfl, trivial⟩))
    replace hF : Fr w0 w := hF.tr hI.ch (hO.ge (⟨rfl, trivial⟩))
    replace hO : IniOK [ob (.pointer (some ⟨b1_0, 0, none⟩)) (.box w0.heap.size 34 E_impl_Diagram p0), ob (.pointer (some ⟨b4_15, 0, none⟩)) (.box w0.heap.size 63 E_impl_DiagramNode (gtD p0.2 y12))] A w := hI.left hdn [(0, ob (.pointer (some ⟨b1_0, 0, none⟩)) (.box w0.heap.size 34 E_impl_Diagram p0)), (6, ob (.pointer (some ⟨b4_15, 0, none⟩)) (.box w0.heap.size 63 E_impl_DiagramNode (gtD p0.2 y12)))] ⟨rfl, rfl, z15, rfl, rfl, ⟨rfl, rfl, e_b4_15, rfl, rfl, trivial⟩⟩
    replace hA := hI.avok
    clear hI
    refine HT.seq ?_
    refine HT.seq ?_
    obtain ⟨x18, q19, hr⟩ := cl_some hr
    obtain ⟨x20, q21, hr⟩ := cl_some hr
    obtain ⟨x22, q23, hr⟩ := bd_some hr
    obtain ⟨x24, q25, hr⟩ := bd_some hr
    obtain ⟨e26, hr⟩ := ck_some hr
    obtain ⟨x27, q28, hr⟩ := cl_some hr
    obtain ⟨x29, q30, hr⟩ := bd_some hr
    refine HT.draw (by kernel_rfl) (l := ⟨_, true, .raw (.pointer (some ⟨b4_15, 0, none⟩))⟩ :: ⟨_, true, .raw (.int .i64 ((gtD p0.2 y12).1))⟩ :: ⟨_, true, .raw (.bool x18)⟩ :: ⟨_, true, .raw (.bool (!x18))⟩ :: ⟨_, true, .raw (.bool (!x18))⟩ :: ⟨_, (true && ((!x18) == false)), .raw (.pointer (some ⟨b4_15, 1, none⟩))⟩ :: ⟨_, (true && ((!x18) == false)), .raw (.int .i64 ((gtD p0.2 y12).2.1))⟩ :: ⟨_, (true && ((!x18) == false)), .raw (.bool x20)⟩ :: ⟨_, (true && ((!x18) == false)), .raw (.bool (!x20))⟩ :: ⟨_, true, .raw (.bool x22)⟩ :: ⟨_, true, .raw (.bool x22)⟩ :: ⟨_, (true && (x22 == false)), .raw (.pointer (some ⟨b4_15, 2, none⟩))⟩ :: ⟨_, (true && (x22 == false)), .raw (.int .i64 ((gtD p0.2 y12).2.2.1))⟩ :: ⟨_, (true && (x22 == false)), .raw (.pointer (some ⟨b4_15, 3, none⟩))⟩ :: ⟨_, (true && (x22 == false)), .raw (.int .i64 ((gtD p0.2 y12).2.2.2))⟩ :: ⟨_, (true && (x22 == false)), .raw (.bool (((gtD p0.2 y12).2.2.1) == ((gtD p0.2 y12).2.2.2)))⟩ :: ⟨_, true, .raw (.bool x24)⟩ :: ⟨_, true, .raw (.bool x24)⟩ :: ⟨_, (true && (x24 == false)), .raw (.pointer (some ⟨b1_0, 1, none⟩))⟩ :: ⟨_, (true && (x24 == false)), .rep (eSl E_impl_DiagramNode) A p0.2⟩ :: ⟨_, (true && (x24 == false)), .raw (.int .i64 y12)⟩ :: ⟨_, (true && (x24 == false)), .rep (eSl E_impl_DiagramNode) A (subL p0.2 0 y12)⟩ :: ⟨_, (true && (x24 == false)), .rep E_impl_DiagramNode A (gtD p0.2 y12)⟩ :: ⟨_, (true && (x24 == false)), .raw (.bool x27)⟩ :: ⟨_, true, .raw (.bool x29)⟩ :: []) (tl := []) (by kernel_rfl) (by kernel_rfl) (by kernel_rfl) (by kernel_rfl) ?_ ?_
    ·exact
      Obls.p (fun R' w' hw hs hd => of_fieldAddr_raw ((hs 4 rfl).trans h4) ff_63_0 Tryd.sizeOf3 (by decide) rfl) <|
      Obls.p (fun R' w' hw hs hd => by have a0 : R' 27 = (.pointer (some ⟨b4_15, 0, none⟩)) := hd.g 0 rfl; exact OpF.int (of_load_box ((hO.fr hw).ok 1 _ rfl).1 a0 fl_impl_DiagramNode_0 rfl Tryd.isAgg3 Tryd.sizeOf3)) <|
      Obls.p (fun R' w' hw hs hd => by have a0 : R' 28 = .int .i64 ((gtD p0.2 y12).1) := hd.g 0 rfl; exact of_call Tryd.call66 (M_impl_isFeature_ok (q19 rfl) (hA.fr hw.size) a0)) <|
      Obls.p (fun R' w' hw hs hd => by have a0 : R' 29 = .bool x18 := hd.g 0 rfl; exact of_not a0) <|
      Obls.p (fun R' w' hw hs hd => by have a0 : R' 30 = .bool (!x18) := hd.g 0 rfl; exact of_move a0) <|
      Obls.cons (Obl.grd 4 false _ _ _ rfl rfl rfl rfl rfl (by kernel_rfl) fun hg R' w' hw hs hd => by have a0 : R' 4 = (.pointer (some ⟨b4_15, 0, none⟩)) := (hs 4 rfl).trans h4; exact of_fieldAddr_raw a0 ff_63_1 Tryd.sizeOf3 (by decide) rfl) <|
      Obls.cons (Obl.grd 4 false _ _ _ rfl rfl rfl rfl rfl (by kernel_rfl) fun hg R' w' hw hs hd => by have a0 : R' 32 = (.pointer (some ⟨b4_15, 1, none⟩)) := hd 0 _ _ _ rfl rfl rfl rfl hg; exact OpF.int (of_load_box ((hO.fr hw).ok 1 _ rfl).1 a0 fl_impl_DiagramNode_1 rfl Tryd.isAgg3 Tryd.sizeOf3)) <|
      Obls.cons (Obl.grd 4 false _ _ _ rfl rfl rfl rfl rfl (by kernel_rfl) fun hg R' w' hw hs hd => by have a0 : R' 33 = .int .i64 ((gtD p0.2 y12).2.1) := hd 0 _ _ _ rfl rfl rfl rfl hg; exact of_call Tryd.call67 (M_impl_isThreshold_ok (q21 hg) (hA.fr hw.size) a0)) <|
      Obls.cons (Obl.grd 4 false _ _ _ rfl rfl rfl rfl rfl (by kernel_rfl) fun hg R' w' hw hs hd => by have a0 : R' 34 = .bool x20 := hd 0 _ _ _ rfl rfl rfl rfl hg; exact of_not a0) <|
      Obls.p (fun R' w' hw hs hd => by have a0 : R' 31 = .bool (!x18) := hd.g 0 rfl; exact of_pick (!x18) a0 (fun hc => by show _ = Value.bool x22; rw [q23, hc]; exact rfl) (fun hc => by have a2 : R' 35 = .bool (!x20) := hd 1 _ _ _ rfl rfl rfl rfl (g_and rfl (beq_of hc)); show _ = Value.bool x22; rw [q23, hc]; exact a2)) <|
      Obls.p (fun R' w' hw hs hd => by have a0 : R' 36 = .bool x22 := hd.g 0 rfl; exact of_move a0) <|
      Obls.cons (Obl.grd 10 false _ _ _ rfl rfl rfl rfl rfl (by kernel_rfl) fun hg R' w' hw hs hd => by have a0 : R' 4 = (.pointer (some ⟨b4_15, 0, none⟩)) := (hs 4 rfl).trans h4; exact of_fieldAddr_raw a0 ff_63_2 Tryd.sizeOf3 (by decide) rfl) <|
      Obls.cons (Obl.grd 10 false _ _ _ rfl rfl rfl rfl rfl (by kernel_rfl) fun hg R' w' hw hs hd => by have a0 : R' 38 = (.pointer (some ⟨b4_15, 2, none⟩)) := hd 0 _ _ _ rfl rfl rfl rfl hg; exact OpF.int (of_load_box ((hO.fr hw).ok 1 _ rfl).1 a0 fl_impl_DiagramNode_2 rfl Tryd.isAgg3 Tryd.sizeOf3)) <|
      Obls.cons (Obl.grd 10 false _ _ _ rfl rfl rfl rfl rfl (by kernel_rfl) fun hg R' w' hw hs hd => by have a0 : R' 4 = (.pointer (some ⟨b4_15, 0, none⟩)) := (hs 4 rfl).trans h4; exact of_fieldAddr_raw a0 ff_63_3 Tryd.sizeOf3 (by decide) rfl) <|
      Obls.cons (Obl.grd 10 false _ _ _ rfl rfl rfl rfl rfl (by kernel_rfl) fun hg R' w' hw hs hd => by have a0 : R' 40 = (.pointer (some ⟨b4_15, 3, none⟩)) := hd 0 _ _ _ rfl rfl rfl rfl hg; exact OpF.int (of_load_box ((hO.fr hw).ok 1 _ rfl).1 a0 fl_impl_DiagramNode_3 rfl Tryd.isAgg3 Tryd.sizeOf3)) <|
      Obls.cons (Obl.grd 10 false _ _ _ rfl rfl rfl rfl rfl (by kernel_rfl) fun hg R' w' hw hs hd => by have a0 : R' 39 = .int .i64 ((gtD p0.2 y12).2.2.1) := hd 0 _ _ _ rfl rfl rfl rfl hg; have a1 : R' 41 = .int .i64 ((gtD p0.2 y12).2.2.2) := hd 1 _ _ _ rfl rfl rfl rfl hg; exact of_eql a0 a1) <|
      Obls.p (fun R' w' hw hs hd => by have a0 : R' 37 = .bool x22 := hd.g 0 rfl; exact of_pick x22 a0 (fun hc => by show _ = Value.bool x24; rw [q25, hc]; exact rfl) (fun hc => by have a2 : R' 42 = .bool (((gtD p0.2 y12).2.2.1) == ((gtD p0.2 y12).2.2.2)) := hd 1 _ _ _ rfl rfl rfl rfl (g_and rfl (beq_of hc)); show _ = Value.bool x24; rw [q25, hc]; exact a2)) <|
      Obls.p (fun R' w' hw hs hd => by have a0 : R' 43 = .bool x24 := hd.g 0 rfl; exact of_move a0) <|
      Obls.cons (Obl.grd 17 false _ _ _ rfl rfl rfl rfl rfl (by kernel_rfl) fun hg R' w' hw hs hd => by have a0 : R' 1 = (.pointer (some ⟨b1_0, 0, none⟩)) := (hs 1 rfl).trans h1; exact of_fieldAddr_raw a0 ff_34_1 Tryd.sizeOf32 (by decide) rfl) <|
      Obls.cons (Obl.grd 17 false _ _ _ rfl rfl rfl rfl rfl (by kernel_rfl) fun hg R' w' hw hs hd => by have a0 : R' 45 = (.pointer (some ⟨b1_0, 1, none⟩)) := hd 0 _ _ _ rfl rfl rfl rfl hg; exact (of_load_box ((hO.fr hw).ok 0 _ rfl).1 a0 fl_impl_Diagram_1 rfl Tryd.isAgg32 Tryd.sizeOf32)) <|
      Obls.cons (Obl.grd 17 false _ _ _ rfl rfl rfl rfl rfl (by kernel_rfl) fun hg R' w' hw hs hd => by have a0 : R' 3 = .int .i64 y12 := (hs 3 rfl).trans h3; exact of_move a0) <|
      Obls.cons (Obl.grd 17 false _ _ _ rfl rfl rfl rfl rfl (by kernel_rfl) fun hg R' w' hw hs hd => by have a0 : Rep (eSl E_impl_DiagramNode) A w' (R' 46) p0.2 := hd 0 _ _ _ rfl rfl rfl rfl hg; have a1 : R' 47 = .int .i64 y12 := hd 1 _ _ _ rfl rfl rfl rfl hg; exact of_slice_sl_hi a0 a1 Tryd.underlying32 Tryd.sizeOf63 (gd e26 hg)) <|
      Obls.cons (Obl.grd 17 false _ _ _ rfl rfl rfl rfl rfl (by kernel_rfl) fun hg R' w' hw hs hd => by have a0 : R' 4 = (.pointer (some ⟨b4_15, 0, none⟩)) := (hs 4 rfl).trans h4; exact (of_load_box ((hO.fr hw).ok 1 _ rfl).1 a0 (Fld.id _) rfl Tryd.isAgg63 Tryd.sizeOf63)) <|
      Obls.cons (Obl.grd 17 false _ _ _ rfl rfl rfl rfl rfl (by kernel_rfl) fun hg R' w' hw hs hd => by have a0 : Rep (eSl E_impl_DiagramNode) A w' (R' 48) (subL p0.2 0 y12) := hd 0 _ _ _ rfl rfl rfl rfl hg; have a1 : Rep E_impl_DiagramNode A w' (R' 49) (gtD p0.2 y12) := hd 1 _ _ _ rfl rfl rfl rfl hg; exact of_call Tryd.call68 (M_slices_Contains_impl_DiagramNode_impl_DiagramNode_ok (q28 hg) (hA.fr hw.size) a0 a1)) <|
      Obls.p (fun R' w' hw hs hd => by have a0 : R' 44 = .bool x24 := hd.g 0 rfl; exact of_pick x24 a0 (fun hc => by show _ = Value.bool x29; rw [q30, hc]; exact rfl) (fun hc => by have a2 : R' 50 = .bool x27 := hd 1 _ _ _ rfl rfl rfl rfl (g_and rfl (beq_of hc)); show _ = Value.bool x29; rw [q30, hc]; exact a2)) <|
      Obls.nil
    intro R w hw hs hF'
    replace h1 := (hs 1 rfl).trans h1
    replace h3 := (hs 3 rfl).trans h3
    replace h4 := (hs 4 rfl).trans h4
    replace h20 := (hs 20 rfl).trans h20
    replace h21 := (hs 21 rfl).trans h21
    replace h22 := (hs 22 rfl).trans h22
    have h51 : R 51 = .bool x29 := hF' 24 _ _ rfl rfl rfl
    replace f_u8 := f_u8.fr hw
    replace hO := hO.fr hw
    replace hA := hA.fr hw.size
    replace hF := hF.trans hw
    clear hs hF' hw
    refine seqR_nil ?_
    refine HT.cond x29 h51 (fun c31 => ?_) (fun c31 => ?_)
    ·have hr := cnd_t c31 hr
     refine HT.seq ?_
     refine HT.text (l := ⟨_, true, .raw (.bool false)⟩ :: []) (tl := []) (by kernel_rfl) (by kernel_rfl) (by kernel_rfl) ?_ ?_
     ·exact
       Obls.p (fun R' w' hw hs hd => of_assign rfl) <|
       Obls.nil
     intro R w hw hs hF'
     have h2 : R 2 = .bool false := hF' 0 _ _ rfl rfl rfl
     replace hO := hO.fr hw
     replace hO : IniOK [] A w := hO.sub [] trivial
     replace hA := hA.fr hw.size
     replace hF := hF.trans hw
     clear hs hF' hw
     refine seqR_nil ?_
     refine HT.ret ?_
     obtain rfl := Option.some.inj hr
     have hr := hr0
     replace hr : some _ = some _ := hr
     obtain rfl := Option.some.inj hr
     exact ⟨.inr rfl, [R 2], ⟨rfl, trivial⟩, h2, hF⟩
    ·have hr := cnd_f c31 hr
     refine HT.skip ?_
     refine HT.seq ?_
     obtain ⟨x32, q33, hr⟩ := cl_some hr
     obtain ⟨x34, q35, hr⟩ := cl_some hr
     obtain ⟨x36, q37, hr⟩ := bd_some hr
     refine HT.text (l := ⟨_, true, .rep E_impl_Diagram A p0⟩ :: ⟨_, true, .raw (.int .i64 y12)⟩ :: ⟨_, true, .raw (.pointer (some ⟨b4_15, 2, none⟩))⟩ :: ⟨_, true, .raw (.int .i64 ((gtD p0.2 y12).2.2.1))⟩ :: ⟨_, true, .raw (.bool x32)⟩ :: ⟨_, true, .raw (.bool (!x32))⟩ :: ⟨_, true, .raw (.bool (!x32))⟩ :: ⟨_, (true && ((!x32) == false)), .rep E_impl_Diagram A p0⟩ :: ⟨_, (true && ((!x32) == false)), .raw (.int .i64 y12)⟩ :: ⟨_, (true && ((!x32) == false)), .raw (.pointer (some ⟨b4_15, 3, none⟩))⟩ :: ⟨_, (true && ((!x32) == false)), .raw (.int .i64 ((gtD p0.2 y12).2.2.2))⟩ :: ⟨_, (true && ((!x32) == false)), .raw (.bool x34)⟩ :: ⟨_, (true && ((!x32) == false)), .raw (.bool (!x34))⟩ :: ⟨_, true, .raw (.bool x36)⟩ :: []) (tl := []) (by kernel_rfl) (by kernel_rfl) (by kernel_rfl) ?_ ?_
     ·exact
       Obls.p (fun R' w' hw hs hd => (of_load_box ((hO.fr hw).ok 0 _ rfl).1 ((hs 1 rfl).trans h1) (Fld.id _) rfl Tryd.isAgg34 Tryd.sizeOf34)) <|
       Obls.p (fun R' w' hw hs hd => of_move ((hs 3 rfl).trans h3)) <|
       Obls.p (fun R' w' hw hs hd => of_fieldAddr_raw ((hs 4 rfl).trans h4) ff_63_2 Tryd.sizeOf3 (by decide) rfl) <|
       Obls.p (fun R' w' hw hs hd => by have a0 : R' 54 = (.pointer (some ⟨b4_15, 2, none⟩)) := hd.g 0 rfl; exact OpF.int (of_load_box ((hO.fr hw).ok 1 _ rfl).1 a0 fl_impl_DiagramNode_2 rfl Tryd.isAgg3 Tryd.sizeOf3)) <|
       Obls.p (fun R' w' hw hs hd => by have a0 : Rep E_impl_Diagram A w' (R' 52) p0 := hd.g 0 rfl; have a1 : R' 53 = .int .i64 y12 := hd.g 1 rfl; have a2 : R' 55 = .int .i64 ((gtD p0.2 y12).2.2.1) := hd.g 2 rfl; exact of_call Tryd.call69 (M_impl_Diagram_isChild_ok (q33 rfl) (hA.fr hw.size) a0 a1 a2)) <|
       Obls.p (fun R' w' hw hs hd => by have a0 : R' 56 = .bool x32 := hd.g 0 rfl; exact of_not a0) <|
       Obls.p (fun R' w' hw hs hd => by have a0 : R' 57 = .bool (!x32) := hd.g 0 rfl; exact of_move a0) <|
       Obls.cons (Obl.grd 6 false _ _ _ rfl rfl rfl rfl rfl (by kernel_rfl) fun hg R' w' hw hs hd => by have a0 : R' 1 = (.pointer (some ⟨b1_0, 0, none⟩)) := (hs 1 rfl).trans h1; exact (of_load_box ((hO.fr hw).ok 0 _ rfl).1 a0 (Fld.id _) rfl Tryd.isAgg34 Tryd.sizeOf34)) <|
       Obls.cons (Obl.grd 6 false _ _ _ rfl rfl rfl rfl rfl (by kernel_rfl) fun hg R' w' hw hs hd => by have a0 : R' 3 = .int .i64 y12 := (hs 3 rfl).trans h3; exact of_move a0) <|
       Obls.cons (Obl.grd 6 false _ _ _ rfl rfl rfl rfl rfl (by kernel_rfl) fun hg R' w' hw hs hd => by have a0 : R' 4 = (.pointer (some ⟨b4_15, 0, none⟩)) := (hs 4 rfl).trans h4; exact of_fieldAddr_raw a0 ff_63_3 Tryd.sizeOf3 (by decide) rfl) <|
       Obls.cons (Obl.grd 6 false _ _ _ rfl rfl rfl rfl rfl (by kernel_rfl) fun hg R' w' hw hs hd => by have a0 : R' 61 = (.pointer (some ⟨b4_15, 3, none⟩)) := hd 0 _ _ _ rfl rfl rfl rfl hg; exact OpF.int (of_load_box ((hO.fr hw).ok 1 _ rfl).1 a0 fl_impl_DiagramNode_3 rfl Tryd.isAgg3 Tryd.sizeOf3)) <|
       Obls.cons (Obl.grd 6 false _ _ _ rfl rfl rfl rfl rfl (by kernel_rfl) fun hg R' w' hw hs hd => by have a0 : Rep E_impl_Diagram A w' (R' 59) p0 := hd 0 _ _ _ rfl rfl rfl rfl hg; have a1 : R' 60 = .int .i64 y12 := hd 1 _ _ _ rfl rfl rfl rfl hg; have a2 : R' 62 = .int .i64 ((gtD p0.2 y12).2.2.2) := hd 2 _ _ _ rfl rfl rfl rfl hg; exact of_call Tryd.call69 (M_impl_Diagram_isChild_ok (q35 hg) (hA.fr hw.size) a0 a1 a2)) <|
       Obls.cons (Obl.grd 6 false _ _ _ rfl rfl rfl rfl rfl (by kernel_rfl) fun hg R' w' hw hs hd => by have a0 : R' 63 = .bool x34 := hd 0 _ _ _ rfl rfl rfl rfl hg; exact of_not a0) <|
       Obls.p (fun R' w' hw hs hd => by have a0 : R' 58 = .bool (!x32) := hd.g 0 rfl; exact of_pick (!x32) a0 (fun hc => by show _ = Value.bool x36; rw [q37, hc]; exact rfl) (fun hc => by have a2 : R' 64 = .bool (!x34) := hd 1 _ _ _ rfl rfl rfl rfl (g_and rfl (beq_of hc)); show _ = Value.bool x36; rw [q37, hc]; exact a2)) <|
       Obls.nil
     intro R w hw hs hF'
     replace h1 := (hs 1 rfl).trans h1
     replace h20 := (hs 20 rfl).trans h20
     replace h21 := (hs 21 rfl).trans h21
     replace h22 := (hs 22 rfl).trans h22
     have h65 : R 65 = .bool x36 := hF' 13 _ _ rfl rfl rfl
     replace f_u8 := f_u8.fr hw
     replace hO := hO.fr hw
     replace hO : IniOK [ob (.pointer (some ⟨b1_0, 0, none⟩)) (.box w0.heap.size 34 E_impl_Diagram p0)] A w := hO.sub [(0, ob (.pointer (some ⟨b1_0, 0, none⟩)) (.box w0.heap.size 34 E_impl_Diagram p0))] ⟨rfl, rfl, trivial⟩
     replace hA := hA.fr hw.size
     replace hF := hF.trans hw
     clear hs hF' hw
     refine seqR_nil ?_
     refine HT.cond x36 h65 (fun c38 => ?_) (fun c38 => ?_)
     ·have hr := cnd_t c38 hr
      refine HT.seq ?_
      refine HT.text (l := ⟨_, true, .raw (.bool false)⟩ :: []) (tl := []) (by kernel_rfl) (by kernel_rfl) (by kernel_rfl) ?_ ?_
      ·exact
        Obls.p (fun R' w' hw hs hd => of_assign rfl) <|
        Obls.nil
      intro R w hw hs hF'
      have h2 : R 2 = .bool false := hF' 0 _ _ rfl rfl rfl
      replace hO := hO.fr hw
      replace hO : IniOK [] A w := hO.sub [] trivial
      replace hA := hA.fr hw.size
      replace hF := hF.trans hw
      clear hs hF' hw
      refine seqR_nil ?_
      refine HT.ret ?_
      obtain rfl := Option.some.inj hr
      have hr := hr0
      replace hr : some _ = some _ := hr
      obtain rfl := Option.some.inj hr
      exact ⟨.inr rfl, [R 2], ⟨rfl, trivial⟩, h2, hF⟩
     ·have hr := cnd_f c38 hr
      refine HT.skip ?_
      obtain ⟨e39, hr⟩ := ck_some hr
      refine HT.text (l := ⟨_, true, .raw (.int .i64 (y12 + (1 : Int)))⟩ :: ⟨_, true, .raw (.int .i64 (y12 + (1 : Int)))⟩ :: []) (tl := []) (by kernel_rfl) (by kernel_rfl) (by kernel_rfl) ?_ ?_
      ·exact
        Obls.p (fun R' w' hw hs hd => of_add ((hs 22 rfl).trans h22) rfl e39) <|
        Obls.p (fun R' w' hw hs hd => by have a0 : R' 66 = .int .i64 (y12 + (1 : Int)) := hd.g 0 rfl; exact of_move a0) <|
        Obls.nil
      intro R w hw hs hF'
      replace h1 := (hs 1 rfl).trans h1
      replace h20 := (hs 20 rfl).trans h20
      replace h21 := (hs 21 rfl).trans h21
      have h22 : R 22 = .int .i64 (y12 + (1 : Int)) := hF' 1 _ _ rfl rfl rfl
      replace f_u8 := f_u8.fr hw
      replace hO := hO.fr hw
      replace hA := hA.fr hw.size
      replace hF := hF.trans hw
      clear hs hF' hw
      refine seqR_nil ?_
      exact Exists.intro k (And.intro (Nat.lt_succ_self k) ⟨_, _, hr, hA, hF, hAA, hO, h1, h20, h21, h22, f_u8⟩)
   ·have hr := cnd_f c13 hr
    refine HT.exit ?_
    obtain rfl := Option.some.inj hr
    replace hO : IniOK [] A w := hO.sub [] trivial
    exact Exists.intro _ ⟨_, rfl, hA, hF, hAA, hO⟩
  rintro R w ⟨A, s11, rfl, hA, hF, hAA, hO⟩
  have hr := exM_go hr
  refine HT.seq ?_
  refine HT.text (l := ⟨_, true, .raw (.bool true)⟩ :: []) (tl := []) (by kernel_rfl) (by kernel_rfl) (by kernel_rfl) ?_ ?_
  ·exact
    Obls.p (fun R' w' hw hs hd => of_assign rfl) <|
    Obls.nil
  intro R w hw hs hF'
  have h2 : R 2 = .bool true := hF' 0 _ _ rfl rfl rfl
  replace hO := hO.fr hw
  replace hA := hA.fr hw.size
  replace hF := hF.trans hw
  clear hs hF' hw
  refine seqR_nil ?_
  refine HT.ret ?_
  obtain rfl := Option.some.inj hr
  exact ⟨.inr rfl, [R 2], ⟨rfl, trivial⟩, h2, hF⟩
def M_impl_FormatInt (fu : Nat) (p0 : Int) : Option (List UInt8) :=
 cl true (M_itoa fu p0) fun x1 =>
 some x1
theorem M_impl_FormatInt_ok {fu : Nat} {A : Av} {p0 : Int} {r : List UInt8} (hr : M_impl_FormatInt fu p0 = some r) {w : World} {v0 : Value} (hA : AvOK A w) (hG : GTab w) (h0 : v0 = .int .i64 p0) :
  Calls Tryd.prog 34 #[v0] w fun e w' => ∃ v, e = .returned v ∧ (Rep eStr A w' v r ∧ Fr w w') := by
 unfold M_impl_FormatInt at hr
 obtain ⟨w0, hw0⟩ : ∃ w0, w0 = w := ⟨_, rfl⟩
 have hF : Fr w0 w := hw0 ▸ Fr.refl _
 rw [show Fr w = Fr w0 from hw0 ▸ rfl]
 have hG0 : GTab w0 := hw0 ▸ hG
 clear hw0
 refine calls_of_HT2 [.tmp 2] Tryd.func34 Tryd.ntmps34 (by decide) rfl rfl (Nat.le_of_ble_eq_true rfl) ?_
 intro R hR
 replace h0 : R 0 = .int .i64 p0 := (hR 0 _ rfl).trans h0
 clear hR
 refine HT.seq ?_
 refine HT.text (l := ⟨_, true, .rep eStr A ([] : List UInt8)⟩ :: []) (tl := []) (by kernel_rfl) (by kernel_rfl) (by kernel_rfl) ?_ ?_
 ·exact
   Obls.p (fun R' w' hw hs hd => of_assign ⟨_, rfl, ⟨_, rfl, rfl, by decide⟩⟩) <|
   Obls.nil
 intro R w hw hs hF'
 replace h0 := (hs 0 rfl).trans h0
 replace hA := hA.fr hw.size
 replace hF := hF.trans hw
 clear hs hF' hw
 refine seqR_nil ?_
 refine HT.seq ?_
 obtain ⟨x1, q2, hr⟩ := cl_some hr
 refine HT.text (l := ⟨_, true, .raw (.int .i64 p0)⟩ :: ⟨_, true, .rep eStr A x1⟩ :: ⟨_, true, .rep eStr A x1⟩ :: []) (tl := []) (by kernel_rfl) (by kernel_rfl) (by kernel_rfl) ?_ ?_
 ·exact
   Obls.p (fun R' w' hw hs hd => of_move ((hs 0 rfl).trans h0)) <|
   Obls.p (fun R' w' hw hs hd => by have a0 : R' 3 = .int .i64 p0 := hd.g 0 rfl; exact of_call Tryd.call60 (M_itoa_ok (q2 rfl) (hA.fr hw.size) (hG0.fr (hF.trans hw)) a0)) <|
   Obls.p (fun R' w' hw hs hd => by have a0 : Rep eStr A w' (R' 4) x1 := hd.g 0 rfl; exact of_assign a0) <|
   Obls.nil
 intro R w hw hs hF'
 obtain ⟨u3, h2, f_u3⟩ : ∃ u, R 2 = u ∧ Rep eStr A w u x1 := ⟨_, rfl, hF' 2 _ _ rfl rfl rfl⟩
 replace hA := hA.fr hw.size
 replace hF := hF.trans hw
 clear hs hF' hw
 refine seqR_nil ?_
 refine HT.ret ?_
 obtain rfl := Option.some.inj hr
 exact ⟨.inr rfl, [R 2], ⟨rfl, trivial⟩, (f_u3.eq h2), hF⟩
def M_impl_testText (fu : Nat) (p0 : T_impl_Test) : Option (List UInt8) :=
 bif p0.2.2 then (
  ck (inR p0.1 featL.length) <|
  ck (lenOK ((gtD featL p0.1) ++ ([60] : List UInt8)).length) <|
  cl true (M_impl_FormatInt fu p0.2.1) fun x7 =>
  ck (lenOK (((gtD featL p0.1) ++ ([60] : List UInt8)) ++ x7).length) <|
  some (((gtD featL p0.1) ++ ([60] : List UInt8)) ++ x7)
 ) else (
  ck (inR p0.1 featL.length) <|
  ck (lenOK ((gtD featL p0.1) ++ ([62, 61] : List UInt8)).length) <|
  cl true (M_impl_FormatInt fu p0.2.1) fun x13 =>
  ck (lenOK (((gtD featL p0.1) ++ ([62, 61] : List UInt8)) ++ x13).length) <|
  some (((gtD featL p0.1) ++ ([62, 61] : List UInt8)) ++ x13)
 )
theorem M_impl_testText_ok {fu : Nat} {A0 : Av} {p0 : T_impl_Test} {r : List UInt8} (hr : M_impl_testText fu p0 = some r) {w : World} {v0 : Value} (hA : AvOK A0 w) (hG : GTab w) (h0 : Rep E_impl_Test A0 w v0 p0) :
  Calls Tryd.prog 40 #[v0] w fun e w' => ∃ v, e = .returned v ∧ (Rep eStr A0 w' v r ∧ Fr w w') := by
 unfold M_impl_testText at hr
 obtain ⟨w0, hw0⟩ : ∃ w0, w0 = w := ⟨_, rfl⟩
 have hF : Fr w0 w := hw0 ▸ Fr.refl _
 have hA0 : ∀ b o, A0 b o → b < w0.heap.size := fun b o h => hw0 ▸ hA b o h
 have hA00 : AvOK A0 w0 := hA0
 rw [show Fr w = Fr w0 from hw0 ▸ rfl]
 have hG0 : GTab w0 := hw0 ▸ hG
 clear hw0
 obtain ⟨A, hAe⟩ : ∃ A, A = A0 := ⟨_, rfl⟩
 have hAA : ∀ b o, A0 b o → A b o := fun b o h => hAe ▸ h
 replace hA : AvOK A w := hAe ▸ hA
 have hO : IniOK [] A w := IniOK.nil
 refine calls_of_HT2 [.tmp 2] Tryd.func40 Tryd.ntmps40 (by decide) rfl rfl (Nat.le_of_ble_eq_true rfl) ?_
 intro R hR
 have f_v0 : Rep E_impl_Test A w v0 p0 := hAe ▸ h0
 replace h0 : R 0 = v0 := hR 0 _ rfl
 clear hR hAe
 refine HT.seq ?_
 refine HT.textR [] (⟨_, true, [], some (.box w0.heap.size 67 E_impl_Test p0), true, fun A => .any⟩ :: ⟨_, true, [], none, true, fun A => .rep eStr A ([] : List UInt8)⟩ :: []) (by kernel_rfl) (by kernel_rfl) (Wf.mk' (by kernel_rfl) (UAll.cons ust_any (UAll.cons ust_rep (UAll.nil))) (by kernel_rfl) (by kernel_rfl)) hO hA ?_ ?_
 ·exact
   OblsR.cons (OblR.made _ rfl rfl rfl rfl fun A' R' w' ho hd => by have a0 : R' 0 = v0 := (ho.old 0 rfl).trans h0; have ra0 := (f_v0.stp ho.stp).eq a0; exact made_box ra0 (Nat.le_trans hF.size ho.ch.size)) <|
   OblsR.p (fun A' R' w' ho hd => of_assign ⟨_, rfl, ⟨_, rfl, rfl, by decide⟩⟩) <|
   OblsR.nil
 intro done ρ σ A R w hdn hI
 obtain ⟨b1_0, e_b1_0⟩ := hI.boxv hdn 0 rfl rfl
 have h1 : R 1 = (.pointer (some ⟨b1_0, 0, none⟩)) := (hI.opvR hdn 0 0 rfl rfl rfl rfl rfl).symm.trans e_b1_0
 replace hAA := hI.low' hAA hA0 (hO.ge (trivial))
 replace hF : Fr w0 w := hF.tr hI.ch (hO.ge (trivial))
 replace hO : IniOK [ob (.pointer (some ⟨b1_0, 0, none⟩)) (.box w0.heap.size 67 E_impl_Test p0)] A w := hI.left hdn [(0, ob (.pointer (some ⟨b1_0, 0, none⟩)) (.box w0.heap.size 67 E_impl_Test p0))] ⟨rfl, rfl, e_b1_0, rfl, rfl, trivial⟩
 replace hA := hI.avok
 clear hI
 refine HT.seq ?_
 refine HT.text (l := ⟨_, true, .rep eStr A ([62, 61] : List UInt8)⟩ :: []) (tl := []) (by kernel_rfl) (by kernel_rfl) (by kernel_rfl) ?_ ?_
 ·exact
   Obls.p (fun R' w' hw hs hd => of_assign ⟨_, rfl, ⟨_, rfl, rfl, by decide⟩⟩) <|
   Obls.nil
 intro R w hw hs hF'
 replace h1 := (hs 1 rfl).trans h1
 obtain ⟨u2, h3, f_u2⟩ : ∃ u, R 3 = u ∧ Rep eStr A w u ([62, 61] : List UInt8) := ⟨_, rfl, hF' 0 _ _ rfl rfl rfl⟩
 replace hO := hO.fr hw
 replace hA := hA.fr hw.size
 replace hF := hF.trans hw
 clear hs hF' hw
 refine seqR_nil ?_
 refine HT.seq ?_
 refine HT.seq ?_
 refine HT.text (l := ⟨_, true, .raw (.pointer (some ⟨b1_0, 2, none⟩))⟩ :: ⟨_, true, .raw (.bool p0.2.2)⟩ :: []) (tl := []) (by kernel_rfl) (by kernel_rfl) (by kernel_rfl) ?_ ?_
 ·exact
   Obls.p (fun R' w' hw hs hd => of_fieldAddr_raw ((hs 1 rfl).trans h1) ff_67_2 Tryd.sizeOf4 (by decide) rfl) <|
   Obls.p (fun R' w' hw hs hd => by have a0 : R' 4 = (.pointer (some ⟨b1_0, 2, none⟩)) := hd.g 0 rfl; exact OpF.bool (of_load_box ((hO.fr hw).ok 0 _ rfl).1 a0 fl_impl_Test_2 rfl Tryd.isAgg4 Tryd.sizeOf4)) <|
   Obls.nil
 intro R w hw hs hF'
 replace h1 := (hs 1 rfl).trans h1
 replace h3 := (hs 3 rfl).trans h3
 have h5 : R 5 = .bool p0.2.2 := hF' 1 _ _ rfl rfl rfl
 replace f_u2 := f_u2.fr hw
 replace hO := hO.fr hw
 replace hA := hA.fr hw.size
 replace hF := hF.trans hw
 clear hs hF' hw
 refine seqR_nil ?_
 refine HT.cond p0.2.2 h5 (fun c3 => ?_) (fun c3 => ?_)
 ·have hr := cnd_t c3 hr
  refine HT.text (l := ⟨_, true, .rep eStr A ([60] : List UInt8)⟩ :: []) (tl := []) (by kernel_rfl) (by kernel_rfl) (by kernel_rfl) ?_ ?_
  ·exact
    Obls.p (fun R' w' hw hs hd => of_assign ⟨_, rfl, ⟨_, rfl, rfl, by decide⟩⟩) <|
    Obls.nil
  intro R w hw hs hF'
  replace h1 := (hs 1 rfl).trans h1
  obtain ⟨u4, h3, f_u4⟩ : ∃ u, R 3 = u ∧ Rep eStr A w u ([60] : List UInt8) := ⟨_, rfl, hF' 0 _ _ rfl rfl rfl⟩
  replace hO := hO.fr hw
  replace hA := hA.fr hw.size
  replace hF := hF.trans hw
  clear hs hF' hw
  refine seqR_nil ?_
  refine HT.seq ?_
  obtain ⟨e5, hr⟩ := ck_some hr
  obtain ⟨e6, hr⟩ := ck_some hr
  obtain ⟨x7, q8, hr⟩ := cl_some hr
  obtain ⟨e9, hr⟩ := ck_some hr
  refine HT.draw (by kernel_rfl) (l := ⟨_, true, .raw (.pointer (some ⟨b1_0, 0, none⟩))⟩ :: ⟨_, true, .raw (.int .i64 p0.1)⟩ :: ⟨_, true, .raw (.pointer (some ⟨0, p0.1.toNat, none⟩))⟩ :: ⟨_, true, .rep eStr A (gtD featL p0.1)⟩ :: ⟨_, true, .raw u4⟩ :: ⟨_, true, .rep eStr A ((gtD featL p0.1) ++ ([60] : List UInt8))⟩ :: ⟨_, true, .raw (.pointer (some ⟨b1_0, 1, none⟩))⟩ :: ⟨_, true, .raw (.int .i64 p0.2.1)⟩ :: ⟨_, true, .rep eStr A x7⟩ :: ⟨_, true, .rep eStr A (((gtD featL p0.1) ++ ([60] : List UInt8)) ++ x7)⟩ :: ⟨_, true, .rep eStr A (((gtD featL p0.1) ++ ([60] : List UInt8)) ++ x7)⟩ :: []) (tl := []) (by kernel_rfl) (by kernel_rfl) (by kernel_rfl) (by kernel_rfl) ?_ ?_
  ·exact
    Obls.p (fun R' w' hw hs hd => of_fieldAddr_raw ((hs 1 rfl).trans h1) ff_67_0 Tryd.sizeOf3 (by decide) rfl) <|
    Obls.p (fun R' w' hw hs hd => by have a0 : R' 6 = (.pointer (some ⟨b1_0, 0, none⟩)) := hd.g 0 rfl; exact OpF.int (of_load_box ((hO.fr hw).ok 0 _ rfl).1 a0 fl_impl_Test_0 rfl Tryd.isAgg3 Tryd.sizeOf3)) <|
    Obls.p (fun R' w' hw hs hd => by have a1 : R' 7 = .int .i64 p0.1 := hd.g 0 rfl; exact of_indexAddr_g a1 Tryd.underlying58 Tryd.sizeOf9 e5) <|
    Obls.p (fun R' w' hw hs hd => by have a0 : R' 8 = (.pointer (some ⟨0, p0.1.toNat, none⟩)) := hd.g 0 rfl; exact (of_load ((hG0.fr (hF.trans hw)).featAt e5 (a0)) Tryd.isAgg9 Tryd.sizeOf9)) <|
    Obls.p (fun R' w' hw hs hd => of_move ((hs 3 rfl).trans h3)) <|
    Obls.p (fun R' w' hw hs hd => by have a0 : Rep eStr A w' (R' 9) (gtD featL p0.1) := hd.g 0 rfl; have a1 : R' 10 = u4 := hd.g 1 rfl; have ra1 := (f_u4.fr hw).eq a1; exact of_cat a0 ra1 e6) <|
    Obls.p (fun R' w' hw hs hd => of_fieldAddr_raw ((hs 1 rfl).trans h1) ff_67_1 Tryd.sizeOf3 (by decide) rfl) <|
    Obls.p (fun R' w' hw hs hd => by have a0 : R' 12 = (.pointer (some ⟨b1_0, 1, none⟩)) := hd.g 0 rfl; exact OpF.int (of_load_box ((hO.fr hw).ok 0 _ rfl).1 a0 fl_impl_Test_1 rfl Tryd.isAgg3 Tryd.sizeOf3)) <|
    Obls.p (fun R' w' hw hs hd => by have a0 : R' 13 = .int .i64 p0.2.1 := hd.g 0 rfl; exact of_call Tryd.call34 (M_impl_FormatInt_ok (q8 rfl) (hA.fr hw.size) (hG0.fr (hF.trans hw)) a0)) <|
    Obls.p (fun R' w' hw hs hd => by have a0 : Rep eStr A w' (R' 11) ((gtD featL p0.1) ++ ([60] : List UInt8)) := hd.g 0 rfl; have a1 : Rep eStr A w' (R' 14) x7 := hd.g 1 rfl; exact of_cat a0 a1 e9) <|
    Obls.p (fun R' w' hw hs hd => by have a0 : Rep eStr A w' (R' 15) (((gtD featL p0.1) ++ ([60] : List UInt8)) ++ x7) := hd.g 0 rfl; exact of_assign a0) <|
    Obls.nil
  intro R w hw hs hF'
  obtain ⟨u10, h2, f_u10⟩ : ∃ u, R 2 = u ∧ Rep eStr A w u (((gtD featL p0.1) ++ ([60] : List UInt8)) ++ x7) := ⟨_, rfl, hF' 10 _ _ rfl rfl rfl⟩
  replace hO := hO.fr hw
  replace hO : IniOK [] A w := hO.sub [] trivial
  replace hA := hA.fr hw.size
  replace hF := hF.trans hw
  clear hs hF' hw
  refine seqR_nil ?_
  refine HT.ret ?_
  obtain rfl := Option.some.inj hr
  exact ⟨.inr rfl, [R 2], ⟨rfl, trivial⟩, (f_u10.eq h2).down hAA, hF⟩
 ·have hr := cnd_f c3 hr
  refine HT.skip ?_
  refine HT.seq ?_
  obtain ⟨e11, hr⟩ := ck_some hr
  obtain ⟨e12, hr⟩ := ck_some hr
  obtain ⟨x13, q14, hr⟩ := cl_some hr
  obtain ⟨e15, hr⟩ := ck_some hr
  refine HT.draw (by kernel_rfl) (l := ⟨_, true, .raw (.pointer (some ⟨b1_0, 0, none⟩))⟩ :: ⟨_, true, .raw (.int .i64 p0.1)⟩ :: ⟨_, true, .raw (.pointer (some ⟨0, p0.1.toNat, none⟩))⟩ :: ⟨_, true, .rep eStr A (gtD featL p0.1)⟩ :: ⟨_, true, .raw u2⟩ :: ⟨_, true, .rep eStr A ((gtD featL p0.1) ++ ([62, 61] : List UInt8))⟩ :: ⟨_, true, .raw (.pointer (some ⟨b1_0, 1, none⟩))⟩ :: ⟨_, true, .raw (.int .i64 p0.2.1)⟩ :: ⟨_, true, .rep eStr A x13⟩ :: ⟨_, true, .rep eStr A (((gtD featL p0.1) ++ ([62, 61] : List UInt8)) ++ x13)⟩ :: ⟨_, true, .rep eStr A (((gtD featL p0.1) ++ ([62, 61] : List UInt8)) ++ x13)⟩ :: []) (tl := []) (by kernel_rfl) (by kernel_rfl) (by kernel_rfl) (by kernel_rfl) ?_ ?_
  ·exact
    Obls.p (fun R' w' hw hs hd => of_fieldAddr_raw ((hs 1 rfl).trans h1) ff_67_0 Tryd.sizeOf3 (by decide) rfl) <|
    Obls.p (fun R' w' hw hs hd => by have a0 : R' 6 = (.pointer (some ⟨b1_0, 0, none⟩)) := hd.g 0 rfl; exact OpF.int (of_load_box ((hO.fr hw).ok 0 _ rfl).1 a0 fl_impl_Test_0 rfl Tryd.isAgg3 Tryd.sizeOf3)) <|
    Obls.p (fun R' w' hw hs hd => by have a1 : R' 7 = .int .i64 p0.1 := hd.g 0 rfl; exact of_indexAddr_g a1 Tryd.underlying58 Tryd.sizeOf9 e11) <|
    Obls.p (fun R' w' hw hs hd => by have a0 : R' 8 = (.pointer (some ⟨0, p0.1.toNat, none⟩)) := hd.g 0 rfl; exact (of_load ((hG0.fr (hF.trans hw)).featAt e11 (a0)) Tryd.isAgg9 Tryd.sizeOf9)) <|
    Obls.p (fun R' w' hw hs hd => of_move ((hs 3 rfl).trans h3)) <|
    Obls.p (fun R' w' hw hs hd => by have a0 : Rep eStr A w' (R' 9) (gtD featL p0.1) := hd.g 0 rfl; have a1 : R' 10 = u2 := hd.g 1 rfl; have ra1 := (f_u2.fr hw).eq a1; exact of_cat a0 ra1 e12) <|
    Obls.p (fun R' w' hw hs hd => of_fieldAddr_raw ((hs 1 rfl).trans h1) ff_67_1 Tryd.sizeOf3 (by decide) rfl) <|
    Obls.p (fun R' w' hw hs hd => by have a0 : R' 12 = (.pointer (some ⟨b1_0, 1, none⟩)) := hd.g 0 rfl; exact OpF.int (of_load_box ((hO.fr hw).ok 0 _ rfl).1 a0 fl_impl_Test_1 rfl Tryd.isAgg3 Tryd.sizeOf3)) <|
    Obls.p (fun R' w' hw hs hd => by have a0 : R' 13 = .int .i64 p0.2.1 := hd.g 0 rfl; exact of_call Tryd.call34 (M_impl_FormatInt_ok (q14 rfl) (hA.fr hw.size) (hG0.fr (hF.trans hw)) a0)) <|
    Obls.p (fun R' w' hw hs hd => by have a0 : Rep eStr A w' (R' 11) ((gtD featL p0.1) ++ ([62, 61] : List UInt8)) := hd.g 0 rfl; have a1 : Rep eStr A w' (R' 14) x13 := hd.g 1 rfl; exact of_cat a0 a1 e15) <|
    Obls.p (fun R' w' hw hs hd => by have a0 : Rep eStr A w' (R' 15) (((gtD featL p0.1) ++ ([62, 61] : List UInt8)) ++ x13) := hd.g 0 rfl; exact of_assign a0) <|
    Obls.nil
  intro R w hw hs hF'
  obtain ⟨u16, h2, f_u16⟩ : ∃ u, R 2 = u ∧ Rep eStr A w u (((gtD featL p0.1) ++ ([62, 61] : List UInt8)) ++ x13) := ⟨_, rfl, hF' 10 _ _ rfl rfl rfl⟩
  replace hO := hO.fr hw
  replace hO : IniOK [] A w := hO.sub [] trivial
  replace hA := hA.fr hw.size
  replace hF := hF.trans hw
  clear hs hF' hw
  refine seqR_nil ?_
  refine HT.ret ?_
  obtain rfl := Option.some.inj hr
  exact ⟨.inr rfl, [R 2], ⟨rfl, trivial⟩, (f_u16.eq h2).down hAA, hF⟩
def M_impl_FormatDiagram_L0 (fu : Nat) (p0 : T_impl_Diagram) : Nat → (List UInt8) → Int → Option (List UInt8)
 | 0, _, _ => none
 | k + 1, y14, y15 =>
  bif (decide (y15 < (p0.2.length : Int))) then (
   ck (inR y15 p0.2.length) <|
   ck (i64B (y15 + (2 : Int))) <|
   cl true (M_impl_FormatInt fu (y15 + (2 : Int))) fun x21 =>
   ck (lenOK (([59, 32] : List UInt8) ++ x21).length) <|
   ck (lenOK ((([59, 32] : List UInt8) ++ x21) ++ ([58, 32] : List UInt8)).length) <|
   cl true (M_impl_testText fu ((gtD p0.2 y15).1, (gtD p0.2 y15).2.1, false)) fun x25 =>
   ck (lenOK (((([59, 32] : List UInt8) ++ x21) ++ ([58, 32] : List UInt8)) ++ x25).length) <|
   ck (lenOK ((((([59, 32] : List UInt8) ++ x21) ++ ([58, 32] : List UInt8)) ++ x25) ++ ([32] : List UInt8)).length) <|
   cl true (M_impl_FormatInt fu ((gtD p0.2 y15).2.2.2)) fun x29 =>
   ck (lenOK (((((([59, 32] : List UInt8) ++ x21) ++ ([58, 32] : List UInt8)) ++ x25) ++ ([32] : List UInt8)) ++ x29).length) <|
   ck (lenOK ((((((([59, 32] : List UInt8) ++ x21) ++ ([58, 32] : List UInt8)) ++ x25) ++ ([32] : List UInt8)) ++ x29) ++ ([32] : List UInt8)).length) <|
   cl true (M_impl_FormatInt fu ((gtD p0.2 y15).2.2.1)) fun x33 =>
   ck (lenOK (((((((([59, 32] : List UInt8) ++ x21) ++ ([58, 32] : List UInt8)) ++ x25) ++ ([32] : List UInt8)) ++ x29) ++ ([32] : List UInt8)) ++ x33).length) <|
   ck (lenOK (y14 ++ (((((((([59, 32] : List UInt8) ++ x21) ++ ([58, 32] : List UInt8)) ++ x25) ++ ([32] : List UInt8)) ++ x29) ++ ([32] : List UInt8)) ++ x33)).length) <|
   ck (i64B (y15 + (1 : Int))) <|
   M_impl_FormatDiagram_L0 fu p0 k (y14 ++ (((((((([59, 32] : List UInt8) ++ x21) ++ ([58, 32] : List UInt8)) ++ x25) ++ ([32] : List UInt8)) ++ x29) ++ ([32] : List UInt8)) ++ x33)) (y15 + (1 : Int))
  ) else (
   some y14
  )
def M_impl_FormatDiagram (fu : Nat) (p0 : T_impl_Diagram) : Option (List UInt8) :=
 cl true (M_impl_IsValidDiagram fu p0) fun x2 =>
 bif (!x2) then (
  some ([] : List UInt8)
 ) else (
  cl true (M_impl_FormatInt fu p0.1) fun x6 =>
  ck (lenOK (([114, 111, 111, 116, 32] : List UInt8) ++ x6).length) <|
  cl true (M_impl_FormatDiagram_L0 fu p0 fu (([114, 111, 111, 116, 32] : List UInt8) ++ x6) (0 : Int)) fun s13 =>
  some s13
 )
set_option linter.unusedSimpArgs false in
theorem M_impl_FormatDiagram_ok {fu : Nat} {A0 : Av} {p0 : T_impl_Diagram} {r : List UInt8} (hr : M_impl_FormatDiagram fu p0 = some r) {w : World} {v0 : Value} (hA : AvOK A0 w) (hG : GTab w) (h0 : Rep E_impl_Diagram A0 w v0 p0) :
  Calls Tryd.prog 15 #[v0] w fun e w' => ∃ v, e = .returned v ∧ (Rep eStr A0 w' v r ∧ Fr w w') := by
 unfold M_impl_FormatDiagram at hr
 obtain ⟨w0, hw0⟩ : ∃ w0, w0 = w := ⟨_, rfl⟩
 have hF : Fr w0 w := hw0 ▸ Fr.refl _
 have hA0 : ∀ b o, A0 b o → b < w0.heap.size := fun b o h => hw0 ▸ hA b o h
 have hA00 : AvOK A0 w0 := hA0
 rw [show Fr w = Fr w0 from hw0 ▸ rfl]
 have hG0 : GTab w0 := hw0 ▸ hG
 clear hw0
 obtain ⟨A, hAe⟩ : ∃ A, A = A0 := ⟨_, rfl⟩
 have hAA : ∀ b o, A0 b o → A b o := fun b o h => hAe ▸ h
 replace hA : AvOK A w := hAe ▸ hA
 have hO : IniOK [] A w := IniOK.nil
 refine calls_of_HT2 [.tmp 2] Tryd.func15 Tryd.ntmps15 (by decide) rfl rfl (Nat.le_of_ble_eq_true rfl) ?_
 intro R hR
 have f_v0 : Rep E_impl_Diagram A w v0 p0 := hAe ▸ h0
 replace h0 : R 0 = v0 := hR 0 _ rfl
 clear hR hAe
 refine HT.seq ?_
 refine HT.textR [] (⟨_, true, [], some (.box w0.heap.size 34 E_impl_Diagram p0), true, fun A => .any⟩ :: ⟨_, true, [], none, true, fun A => .rep eStr A ([] : List UInt8)⟩ :: []) (by kernel_rfl) (by kernel_rfl) (Wf.mk' (by kernel_rfl) (UAll.cons ust_any (UAll.cons ust_rep (UAll.nil))) (by kernel_rfl) (by kernel_rfl)) hO hA ?_ ?_
 ·exact
   OblsR.cons (OblR.made _ rfl rfl rfl rfl fun A' R' w' ho hd => by have a0 : R' 0 = v0 := (ho.old 0 rfl).trans h0; have ra0 := (f_v0.stp ho.stp).eq a0; exact made_box ra0 (Nat.le_trans hF.size ho.ch.size)) <|
   OblsR.p (fun A' R' w' ho hd => of_assign ⟨_, rfl, ⟨_, rfl, rfl, by decide⟩⟩) <|
   OblsR.nil
 intro done ρ σ A R w hdn hI
 obtain ⟨b1_0, e_b1_0⟩ := hI.boxv hdn 0 rfl rfl
 have h1 : R 1 = (.pointer (some ⟨b1_0, 0, none⟩)) := (hI.opvR hdn 0 0 rfl rfl rfl rfl rfl).symm.trans e_b1_0
 replace hAA := hI.low' hAA hA0 (hO.ge (trivial))
 replace hF : Fr w0 w := hF.tr hI.ch (hO.ge (trivial))
 replace hO : IniOK [ob (.pointer (some ⟨b1_0, 0, none⟩)) (.box w0.heap.size 34 E_impl_Diagram p0)] A w := hI.left hdn [(0, ob (.pointer (some ⟨b1_0, 0, none⟩)) (.box w0.heap.size 34 E_impl_Diagram p0))] ⟨rfl, rfl, e_b1_0, rfl, rfl, trivial⟩
 replace hA := hI.avok
 clear hI
 refine HT.seq ?_
 refine HT.seq ?_
 obtain ⟨x2, q3, hr⟩ := cl_some hr
 refine HT.text (l := ⟨_, true, .rep E_impl_Diagram A p0⟩ :: ⟨_, true, .raw (.bool x2)⟩ :: ⟨_, true, .raw (.bool (!x2))⟩ :: []) (tl := []) (by kernel_rfl) (by kernel_rfl) (by kernel_rfl) ?_ ?_
 ·exact
   Obls.p (fun R' w' hw hs hd => (of_load_box ((hO.fr hw).ok 0 _ rfl).1 ((hs 1 rfl).trans h1) (Fld.id _) rfl Tryd.isAgg34 Tryd.sizeOf34)) <|
   Obls.p (fun R' w' hw hs hd => by have a0 : Rep E_impl_Diagram A w' (R' 6) p0 := hd.g 0 rfl; exact of_call Tryd.call39 (M_impl_IsValidDiagram_ok (q3 rfl) (hA.fr hw.size) a0)) <|
   Obls.p (fun R' w' hw hs hd => by have a0 : R' 7 = .bool x2 := hd.g 0 rfl; exact of_not a0) <|
   Obls.nil
 intro R w hw hs hF'
 replace h1 := (hs 1 rfl).trans h1
 have h8 : R 8 = .bool (!x2) := hF' 2 _ _ rfl rfl rfl
 replace hO := hO.fr hw
 replace hA := hA.fr hw.size
 replace hF := hF.trans hw
 clear hs hF' hw
 refine seqR_nil ?_
 refine HT.cond (!x2) h8 (fun c4 => ?_) (fun c4 => ?_)
 ·have hr := cnd_t c4 hr
  refine HT.seq ?_
  refine HT.text (l := ⟨_, true, .rep eStr A ([] : List UInt8)⟩ :: []) (tl := []) (by kernel_rfl) (by kernel_rfl) (by kernel_rfl) ?_ ?_
  ·exact
    Obls.p (fun R' w' hw hs hd => of_assign ⟨_, rfl, ⟨_, rfl, rfl, by decide⟩⟩) <|
    Obls.nil
  intro R w hw hs hF'
  obtain ⟨u5, h2, f_u5⟩ : ∃ u, R 2 = u ∧ Rep eStr A w u ([] : List UInt8) := ⟨_, rfl, hF' 0 _ _ rfl rfl rfl⟩
  replace hO := hO.fr hw
  replace hO : IniOK [] A w := hO.sub [] trivial
  replace hA := hA.fr hw.size
  replace hF := hF.trans hw
  clear hs hF' hw
  refine seqR_nil ?_
  refine HT.ret ?_
  obtain rfl := Option.some.inj hr
  exact ⟨.inr rfl, [R 2], ⟨rfl, trivial⟩, (f_u5.eq h2).down hAA, hF⟩
 ·have hr := cnd_f c4 hr
  refine HT.skip ?_
  refine HT.seq ?_
  obtain ⟨x6, q7, hr⟩ := cl_some hr
  obtain ⟨e8, hr⟩ := ck_some hr
  refine HT.text (l := ⟨_, true, .raw (.pointer (some ⟨b1_0, 0, none⟩))⟩ :: ⟨_, true, .raw (.int .i64 p0.1)⟩ :: ⟨_, true, .rep eStr A x6⟩ :: ⟨_, true, .rep eStr A (([114, 111, 111, 116, 32] : List UInt8) ++ x6)⟩ :: ⟨_, true, .rep eStr A (([114, 111, 111, 116, 32] : List UInt8) ++ x6)⟩ :: []) (tl := []) (by kernel_rfl) (by kernel_rfl) (by kernel_rfl) ?_ ?_
  ·exact
    Obls.p (fun R' w' hw hs hd => of_fieldAddr_raw ((hs 1 rfl).trans h1) ff_34_0 Tryd.sizeOf3 (by decide) rfl) <|
    Obls.p (fun R' w' hw hs hd => by have a0 : R' 9 = (.pointer (some ⟨b1_0, 0, none⟩)) := hd.g 0 rfl; exact OpF.int (of_load_box ((hO.fr hw).ok 0 _ rfl).1 a0 fl_impl_Diagram_0 rfl Tryd.isAgg3 Tryd.sizeOf3)) <|
    Obls.p (fun R' w' hw hs hd => by have a0 : R' 10 = .int .i64 p0.1 := hd.g 0 rfl; exact of_call Tryd.call34 (M_impl_FormatInt_ok (q7 rfl) (hA.fr hw.size) (hG0.fr (hF.trans hw)) a0)) <|
    Obls.p (fun R' w' hw hs hd => by have a1 : Rep eStr A w' (R' 11) x6 := hd.g 0 rfl; exact of_cat ⟨_, rfl, ⟨_, rfl, rfl, by decide⟩⟩ a1 e8) <|
    Obls.p (fun R' w' hw hs hd => by have a0 : Rep eStr A w' (R' 12) (([114, 111, 111, 116, 32] : List UInt8) ++ x6) := hd.g 0 rfl; exact of_assign a0) <|
    Obls.nil
  intro R w hw hs hF'
  replace h1 := (hs 1 rfl).trans h1
  obtain ⟨u9, h3, f_u9⟩ : ∃ u, R 3 = u ∧ Rep eStr A w u (([114, 111, 111, 116, 32] : List UInt8) ++ x6) := ⟨_, rfl, hF' 4 _ _ rfl rfl rfl⟩
  replace hO := hO.fr hw
  replace hA := hA.fr hw.size
  replace hF := hF.trans hw
  clear hs hF' hw
  refine seqR_nil ?_
  refine HT.seq ?_
  refine HT.seq ?_
  refine HT.text (l := ⟨_, true, .raw (.pointer (some ⟨b1_0, 1, none⟩))⟩ :: ⟨_, true, .rep (eSl E_impl_DiagramNode) A p0.2⟩ :: ⟨_, true, .raw (.int .i64 (p0.2.length : Int))⟩ :: ⟨_, true, .raw (.int .i64 (0 : Int))⟩ :: []) (tl := []) (by kernel_rfl) (by kernel_rfl) (by kernel_rfl) ?_ ?_
  ·exact
    Obls.p (fun R' w' hw hs hd => of_fieldAddr_raw ((hs 1 rfl).trans h1) ff_34_1 Tryd.sizeOf32 (by decide) rfl) <|
    Obls.p (fun R' w' hw hs hd => by have a0 : R' 13 = (.pointer (some ⟨b1_0, 1, none⟩)) := hd.g 0 rfl; exact (of_load_box ((hO.fr hw).ok 0 _ rfl).1 a0 fl_impl_Diagram_1 rfl Tryd.isAgg32 Tryd.sizeOf32)) <|
    Obls.p (fun R' w' hw hs hd => by have a0 : Rep (eSl E_impl_DiagramNode) A w' (R' 14) p0.2 := hd.g 0 rfl; exact of_len_sl (aT := #[]) a0 Tryd.underlying32) <|
    Obls.p (fun R' w' hw hs hd => of_move rfl) <|
    Obls.nil
  intro R w hw hs hF'
  replace h3 := (hs 3 rfl).trans h3
  obtain ⟨u10, h14, f_u10⟩ : ∃ u, R 14 = u ∧ Rep (eSl E_impl_DiagramNode) A w u p0.2 := ⟨_, rfl, hF' 1 _ _ rfl rfl rfl⟩
  have h15 : R 15 = .int .i64 (p0.2.length : Int) := hF' 2 _ _ rfl rfl rfl
  have h16 : R 16 = .int .i64 (0 : Int) := hF' 3 _ _ rfl rfl rfl
  replace f_u9 := f_u9.fr hw
  replace hO := hO.fr hw
  replace hO : IniOK [] A w := hO.sub [] trivial
  replace hA := hA.fr hw.size
  replace hF := hF.trans hw
  clear hs hF' hw
  refine seqR_nil ?_
  obtain ⟨rl11, q12, hr⟩ := cl_some hr
  replace q12 := q12 rfl
  refine HT.cut0 (fun R w => ∃ A : Av, ∃ (s13 : (List UInt8)) (wo_3 : Value), rl11 = s13 ∧ AvOK A w ∧ Fr w0 w ∧ (∀ b o, A0 b o → A b o) ∧ IniOK [] A w ∧ R 3 = wo_3 ∧ Rep eStr A w wo_3 s13) ?_ ?_
  ·refine HT.block ?_
   refine HT.loop (fun k R w => ∃ A : Av, ∃ (y14 : List UInt8) (y15 : Int) (wl_3 : Value), M_impl_FormatDiagram_L0 fu p0 k y14 y15 = some rl11 ∧ AvOK A w ∧ Fr w0 w ∧ (∀ b o, A0 b o → A b o) ∧ IniOK [] A w ∧ R 3 = wl_3 ∧ R 14 = u10 ∧ R 15 = .int .i64 (p0.2.length : Int) ∧ R 16 = .int .i64 y15 ∧ Rep (eSl E_impl_DiagramNode) A w u10 p0.2 ∧ Rep eStr A w wl_3 y14) fu ⟨_, _, _, u9, q12, hA, hF, hAA, hO, h3, h14, h15, h16, f_u10, f_u9⟩ ?_
   have hr0 := hr; clear hr q12
   rintro k R w ⟨A, y14, y15, wl_3, hr, hA, hF, hAA, hO, h3, h14, h15, h16, f_u10, f_wl_3⟩
   rcases k with _ | k
   ·cases (show none = some _ from hr)
   rw [M_impl_FormatDiagram_L0] at hr
   refine HT.seq ?_
   refine HT.text (l := ⟨_, true, .raw (.bool (decide (y15 < (p0.2.length : Int))))⟩ :: []) (tl := []) (by kernel_rfl) (by kernel_rfl) (by kernel_rfl) ?_ ?_
   ·exact
     Obls.p (fun R' w' hw hs hd => of_lss ((hs 16 rfl).trans h16) ((hs 15 rfl).trans h15)) <|
     Obls.nil
   intro R w hw hs hF'
   replace h3 := (hs 3 rfl).trans h3
   replace h14 := (hs 14 rfl).trans h14
   replace h15 := (hs 15 rfl).trans h15
   replace h16 := (hs 16 rfl).trans h16
   have h17 : R 17 = .bool (decide (y15 < (p0.2.length : Int))) := hF' 0 _ _ rfl rfl rfl
   replace f_u10 := f_u10.fr hw
   replace f_wl_3 := f_wl_3.fr hw
   replace hO := hO.fr hw
   replace hA := hA.fr hw.size
   replace hF := hF.trans hw
   clear hs hF' hw
   refine seqR_nil ?_
   refine HT.seq ?_
   refine HT.cond (decide (y15 < (p0.2.length : Int))) h17 (fun c16 => ?_) (fun c16 => ?_)
   ·have hr := cnd_t c16 hr
    refine HT.skip ?_
    refine HT.seq ?_
    refine HT.block ?_
    refine HT.seq ?_
    obtain ⟨e17, hr⟩ := ck_some hr
    refine HT.textR [] (⟨_, true, [], none, true, fun A => .raw (.int .i64 y15)⟩ :: ⟨_, true, [], none, true, fun A => .qtr E_impl_DiagramNode A (gtD p0.2 y15)⟩ :: ⟨_, true, [], none, true, fun A => .rep E_impl_DiagramNode A (gtD p0.2 y15)⟩ :: ⟨_, true, [], some (.box w0.heap.size 63 E_impl_DiagramNode ((0 : Int), ((0 : Int), ((0 : Int), (0 : Int))))), true, fun A => .any⟩ :: ⟨_, true, [], none, true, fun A => .raw (.int .i64 y15)⟩ :: ⟨_, true, [3], some (.box w0.heap.size 63 E_impl_DiagramNode (gtD p0.2 y15)), false, fun A => .any⟩ :: []) (by kernel_rfl) (by kernel_rfl) (Wf.mk' (by kernel_rfl) (UAll.cons ust_raw (UAll.cons ust_qtr (UAll.cons ust_rep (UAll.cons ust_any (UAll.cons ust_raw (UAll.cons ust_any (UAll.nil))))))) (by kernel_rfl) (by kernel_rfl)) hO hA ?_ ?_
    ·exact
      OblsR.p (fun A' R' w' ho hd => of_move ((ho.old 16 rfl).trans h16)) <|
      OblsR.p (fun A' R' w' ho hd => by have ra0 := (f_u10.stp ho.stp).eq ((ho.old 14 rfl).trans h14); exact of_indexAddr ra0 ((ho.old 16 rfl).trans h16) Tryd.underlying32 Tryd.sizeOf63 e17) <|
      OblsR.p (fun A' R' w' ho hd => by have a0 : QRep E_impl_DiagramNode A' w' (R' 19) (gtD p0.2 y15) := hd.g 0 rfl; exact (of_load a0.ptr Tryd.isAgg63 Tryd.sizeOf63)) <|
      OblsR.cons (OblR.made _ rfl rfl rfl rfl fun A' R' w' ho hd => by exact made_alloc Tryd.zeroValue63 (fun A w => rep_pr rep1_int (rep_pr rep1_int (rep_pr rep1_int rep1_int))) (Nat.le_trans hF.size ho.ch.size)) <|
      OblsR.p (fun A' R' w' ho hd => by have a0 : R' 18 = .int .i64 y15 := hd.g 0 rfl; exact of_assign a0) <|
      OblsR.cons (OblR.took 3 _ _ rfl rfl rfl rfl rfl fun A' R' w' ho hd u hok hav hin hop hds => by have a1 : Rep E_impl_DiagramNode A' w' (R' 20) (gtD p0.2 y15) := hd.g 1 rfl; obtain ⟨b, hb, hB', hbx⟩ := hok; have hop' := hop _ _ rfl rfl rfl rfl; exact took_store a1 (hop'.symm.trans hb) hb ⟨b, hb, hB', hbx⟩ hav (FldS.id _) Tryd.sizeOf63 rfl) <|
      OblsR.nil
    intro done ρ σ A R w hdn hI
    replace h3 : R 3 = wl_3 := (hI.reg rfl).trans h3
    replace h14 : R 14 = u10 := (hI.reg rfl).trans h14
    replace h15 : R 15 = .int .i64 (p0.2.length : Int) := (hI.reg rfl).trans h15
    replace h16 : R 16 = .int .i64 y15 := (hI.reg rfl).trans h16
    obtain ⟨b5_17, e_b5_17⟩ := hI.boxv hdn 5 rfl rfl
    have z19 := (hI.opnR hdn 5 5 rfl rfl rfl rfl rfl).symm.trans e_b5_17
    have h5 : R 5 = (.pointer (some ⟨b5_17, 0, none⟩)) := (hI.opvR hdn 3 3 rfl rfl rfl rfl rfl).symm.trans z19
    have h4 : R 4 = .int .i64 y15 := hI.fact hdn (i := 4) rfl rfl rfl
    replace f_u10 := f_u10.stp hI.stp
    replace f_wl_3 := f_wl_3.stp hI.stp
    replace hAA := hI.low' hAA hA0 (hO.ge (trivial))
    replace hF : Fr w0 w := hF.tr hI.ch (hO.ge (trivial))
    replace hO : IniOK [ob (.pointer (some ⟨b5_17, 0, none⟩)) (.box w0.heap.size 63 E_impl_DiagramNode (gtD p0.2 y15))] A w := hI.left hdn [(5, ob (.pointer (some ⟨b5_17, 0, none⟩)) (.box w0.heap.size 63 E_impl_DiagramNode (gtD p0.2 y15)))] ⟨rfl, rfl, e_b5_17, rfl, rfl, trivial⟩
    replace hA := hI.avok
    clear hI
    obtain ⟨e20, hr⟩ := ck_some hr
    obtain ⟨x21, q22, hr⟩ := cl_some hr
    obtain ⟨e23, hr⟩ := ck_some hr
    obtain ⟨e24, hr⟩ := ck_some hr
    obtain ⟨x25, q26, hr⟩ := cl_some hr
    obtain ⟨e27, hr⟩ := ck_some hr
    obtain ⟨e28, hr⟩ := ck_some hr
    obtain ⟨x29, q30, hr⟩ := cl_some hr
    obtain ⟨e31, hr⟩ := ck_some hr
    obtain ⟨e32, hr⟩ := ck_some hr
    obtain ⟨x33, q34, hr⟩ := cl_some hr
    obtain ⟨e35, hr⟩ := ck_some hr
    obtain ⟨e36, hr⟩ := ck_some hr
    refine HT.draw (by kernel_rfl) (l := ⟨_, true, .raw wl_3⟩ :: ⟨_, true, .raw (.int .i64 y15)⟩ :: ⟨_, true, .raw (.int .i64 (y15 + (2 : Int)))⟩ :: ⟨_, true, .rep eStr A x21⟩ :: ⟨_, true, .rep eStr A (([59, 32] : List UInt8) ++ x21)⟩ :: ⟨_, true, .rep eStr A ((([59, 32] : List UInt8) ++ x21) ++ ([58, 32] : List UInt8))⟩ :: ⟨_, true, .raw (.pointer (some ⟨b5_17, 0, none⟩))⟩ :: ⟨_, true, .raw (.int .i64 ((gtD p0.2 y15).1))⟩ :: ⟨_, true, .raw (.pointer (some ⟨b5_17, 1, none⟩))⟩ :: ⟨_, true, .raw (.int .i64 ((gtD p0.2 y15).2.1))⟩ :: ⟨_, true, .rep E_impl_Test A ((gtD p0.2 y15).1, (gtD p0.2 y15).2.1, false)⟩ :: ⟨_, true, .rep eStr A x25⟩ :: ⟨_, true, .rep eStr A (((([59, 32] : List UInt8) ++ x21) ++ ([58, 32] : List UInt8)) ++ x25)⟩ :: ⟨_, true, .rep eStr A ((((([59, 32] : List UInt8) ++ x21) ++ ([58, 32] : List UInt8)) ++ x25) ++ ([32] : List UInt8))⟩ :: ⟨_, true, .raw (.pointer (some ⟨b5_17, 3, none⟩))⟩ :: ⟨_, true, .raw (.int .i64 ((gtD p0.2 y15).2.2.2))⟩ :: ⟨_, true, .rep eStr A x29⟩ :: ⟨_, true, .rep eStr A (((((([59, 32] : List UInt8) ++ x21) ++ ([58, 32] : List UInt8)) ++ x25) ++ ([32] : List UInt8)) ++ x29)⟩ :: ⟨_, true, .rep eStr A ((((((([59, 32] : List UInt8) ++ x21) ++ ([58, 32] : List UInt8)) ++ x25) ++ ([32] : List UInt8)) ++ x29) ++ ([32] : List UInt8))⟩ :: ⟨_, true, .raw (.pointer (some ⟨b5_17, 2, none⟩))⟩ :: ⟨_, true, .raw (.int .i64 ((gtD p0.2 y15).2.2.1))⟩ :: ⟨_, true, .rep eStr A x33⟩ :: ⟨_, true, .rep eStr A (((((((([59, 32] : List UInt8) ++ x21) ++ ([58, 32] : List UInt8)) ++ x25) ++ ([32] : List UInt8)) ++ x29) ++ ([32] : List UInt8)) ++ x33)⟩ :: ⟨_, true, .rep eStr A (y14 ++ (((((((([59, 32] : List UInt8) ++ x21) ++ ([58, 32] : List UInt8)) ++ x25) ++ ([32] : List UInt8)) ++ x29) ++ ([32] : List UInt8)) ++ x33))⟩ :: ⟨_, true, .rep eStr A (y14 ++ (((((((([59, 32] : List UInt8) ++ x21) ++ ([58, 32] : List UInt8)) ++ x25) ++ ([32] : List UInt8)) ++ x29) ++ ([32] : List UInt8)) ++ x33))⟩ :: []) (tl := []) (by kernel_rfl) (by kernel_rfl) (by kernel_rfl) (by kernel_rfl) ?_ ?_
    ·exact
      Obls.p (fun R' w' hw hs hd => of_move ((hs 3 rfl).trans h3)) <|
      Obls.p (fun R' w' hw hs hd => of_move ((hs 4 rfl).trans h4)) <|
      Obls.p (fun R' w' hw hs hd => by have a0 : R' 22 = .int .i64 y15 := hd.g 0 rfl; exact of_add a0 rfl e20) <|
      Obls.p (fun R' w' hw hs hd => by have a0 : R' 23 = .int .i64 (y15 + (2 : Int)) := hd.g 0 rfl; exact of_call Tryd.call34 (M_impl_FormatInt_ok (q22 rfl) (hA.fr hw.size) (hG0.fr (hF.trans hw)) a0)) <|
      Obls.p (fun R' w' hw hs hd => by have a1 : Rep eStr A w' (R' 24) x21 := hd.g 0 rfl; exact of_cat ⟨_, rfl, ⟨_, rfl, rfl, by decide⟩⟩ a1 e23) <|
      Obls.p (fun R' w' hw hs hd => by have a0 : Rep eStr A w' (R' 25) (([59, 32] : List UInt8) ++ x21) := hd.g 0 rfl; exact of_cat a0 ⟨_, rfl, ⟨_, rfl, rfl, by decide⟩⟩ e24) <|
      Obls.p (fun R' w' hw hs hd => of_fieldAddr_raw ((hs 5 rfl).trans h5) ff_63_0 Tryd.sizeOf3 (by decide) rfl) <|
      Obls.p (fun R' w' hw hs hd => by have a0 : R' 27 = (.pointer (some ⟨b5_17, 0, none⟩)) := hd.g 0 rfl; exact OpF.int (of_load_box ((hO.fr hw).ok 0 _ rfl).1 a0 fl_impl_DiagramNode_0 rfl Tryd.isAgg3 Tryd.sizeOf3)) <|
      Obls.p (fun R' w' hw hs hd => of_fieldAddr_raw ((hs 5 rfl).trans h5) ff_63_1 Tryd.sizeOf3 (by decide) rfl) <|
      Obls.p (fun R' w' hw hs hd => by have a0 : R' 29 = (.pointer (some ⟨b5_17, 1, none⟩)) := hd.g 0 rfl; exact OpF.int (of_load_box ((hO.fr hw).ok 0 _ rfl).1 a0 fl_impl_DiagramNode_1 rfl Tryd.isAgg3 Tryd.sizeOf3)) <|
      Obls.p (fun R' w' hw hs hd => by have a0 : R' 28 = .int .i64 ((gtD p0.2 y15).1) := hd.g 0 rfl; have a1 : R' 30 = .int .i64 ((gtD p0.2 y15).2.1) := hd.g 1 rfl; exact of_build_raw (v := .agg #[.int .i64 ((gtD p0.2 y15).1), .int .i64 ((gtD p0.2 y15).2.1), .bool false]) (by simp [execOp, Instr.build, evalR, a0, a1, underlying, Tryd.underlying67, Tryd.zeroValue67, Tryd.sizeOf3, Tryd.sizeOf4, go_sem, Instr.fill]) ⟨_, rfl, rep_pr rep1_int (rep_pr rep1_int rep1_bool)⟩) <|
      Obls.p (fun R' w' hw hs hd => by have a0 : Rep E_impl_Test A w' (R' 31) ((gtD p0.2 y15).1, (gtD p0.2 y15).2.1, false) := hd.g 0 rfl; exact of_call Tryd.call40 (M_impl_testText_ok (q26 rfl) (hA.fr hw.size) (hG0.fr (hF.trans hw)) a0)) <|
      Obls.p (fun R' w' hw hs hd => by have a0 : Rep eStr A w' (R' 26) ((([59, 32] : List UInt8) ++ x21) ++ ([58, 32] : List UInt8)) := hd.g 0 rfl; have a1 : Rep eStr A w' (R' 32) x25 := hd.g 1 rfl; exact of_cat a0 a1 e27) <|
      Obls.p (fun R' w' hw hs hd => by have a0 : Rep eStr A w' (R' 33) (((([59, 32] : List UInt8) ++ x21) ++ ([58, 32] : List UInt8)) ++ x25) := hd.g 0 rfl; exact of_cat a0 ⟨_, rfl, ⟨_, rfl, rfl, by decide⟩⟩ e28) <|
      Obls.p (fun R' w' hw hs hd => of_fieldAddr_raw ((hs 5 rfl).trans h5) ff_63_3 Tryd.sizeOf3 (by decide) rfl) <|
      Obls.p (fun R' w' hw hs hd => by have a0 : R' 35 = (.pointer (some ⟨b5_17, 3, none⟩)) := hd.g 0 rfl; exact OpF.int (of_load_box ((hO.fr hw).ok 0 _ rfl).1 a0 fl_impl_DiagramNode_3 rfl Tryd.isAgg3 Tryd.sizeOf3)) <|
      Obls.p (fun R' w' hw hs hd => by have a0 : R' 36 = .int .i64 ((gtD p0.2 y15).2.2.2) := hd.g 0 rfl; exact of_call Tryd.call34 (M_impl_FormatInt_ok (q30 rfl) (hA.fr hw.size) (hG0.fr (hF.trans hw)) a0)) <|
      Obls.p (fun R' w' hw hs hd => by have a0 : Rep eStr A w' (R' 34) ((((([59, 32] : List UInt8) ++ x21) ++ ([58, 32] : List UInt8)) ++ x25) ++ ([32] : List UInt8)) := hd.g 0 rfl; have a1 : Rep eStr A w' (R' 37) x29 := hd.g 1 rfl; exact of_cat a0 a1 e31) <|
      Obls.p (fun R' w' hw hs hd => by have a0 : Rep eStr A w' (R' 38) (((((([59, 32] : List UInt8) ++ x21) ++ ([58, 32] : List UInt8)) ++ x25) ++ ([32] : List UInt8)) ++ x29) := hd.g 0 rfl; exact of_cat a0 ⟨_, rfl, ⟨_, rfl, rfl, by decide⟩⟩ e32) <|
      Obls.p (fun R' w' hw hs hd => of_fieldAddr_raw ((hs 5 rfl).trans h5) ff_63_2 Tryd.sizeOf3 (by decide) rfl) <|
      Obls.p (fun R' w' hw hs hd => by have a0 : R' 40 = (.pointer (some ⟨b5_17, 2, none⟩)) := hd.g 0 rfl; exact OpF.int (of_load_box ((hO.fr hw).ok 0 _ rfl).1 a0 fl_impl_DiagramNode_2 rfl Tryd.isAgg3 Tryd.sizeOf3)) <|
      Obls.p (fun R' w' hw hs hd => by have a0 : R' 41 = .int .i64 ((gtD p0.2 y15).2.2.1) := hd.g 0 rfl; exact of_call Tryd.call34 (M_impl_FormatInt_ok (q34 rfl) (hA.fr hw.size) (hG0.fr (hF.trans hw)) a0)) <|
      Obls.p (fun R' w' hw hs hd => by have a0 : Rep eStr A w' (R' 39) ((((((([59, 32] : List UInt8) ++ x21) ++ ([58, 32] : List UInt8)) ++ x25) ++ ([32] : List UInt8)) ++ x29) ++ ([32] : List UInt8)) := hd.g 0 rfl; have a1 : Rep eStr A w' (R' 42) x33 := hd.g 1 rfl; exact of_cat a0 a1 e35) <|
      Obls.p (fun R' w' hw hs hd => by have a0 : R' 21 = wl_3 := hd.g 0 rfl; have ra0 := (f_wl_3.fr hw).eq a0; have a1 : Rep eStr A w' (R' 43) (((((((([59, 32] : List UInt8) ++ x21) ++ ([58, 32] : List UInt8)) ++ x25) ++ ([32] : List UInt8)) ++ x29) ++ ([32] : List UInt8)) ++ x33) := hd.g 1 rfl; exact of_cat ra0 a1 e36) <|
      Obls.p (fun R' w' hw hs hd => by have a0 : Rep eStr A w' (R' 44) (y14 ++ (((((((([59, 32] : List UInt8) ++ x21) ++ ([58, 32] : List UInt8)) ++ x25) ++ ([32] : List UInt8)) ++ x29) ++ ([32] : List UInt8)) ++ x33)) := hd.g 0 rfl; exact of_assign a0) <|
      Obls.nil
    intro R w hw hs hF'
    replace h14 := (hs 14 rfl).trans h14
    replace h15 := (hs 15 rfl).trans h15
    replace h16 := (hs 16 rfl).trans h16
    obtain ⟨u37, h3, f_u37⟩ : ∃ u, R 3 = u ∧ Rep eStr A w u (y14 ++ (((((((([59, 32] : List UInt8) ++ x21) ++ ([58, 32] : List UInt8)) ++ x25) ++ ([32] : List UInt8)) ++ x29) ++ ([32] : List UInt8)) ++ x33)) := ⟨_, rfl, hF' 24 _ _ rfl rfl rfl⟩
    replace f_u10 := f_u10.fr hw
    replace hO := hO.fr hw
    replace hO : IniOK [] A w := hO.sub [] trivial
    replace hA := hA.fr hw.size
    replace hF := hF.trans hw
    clear hs hF' hw
    refine seqR_nil ?_
    obtain ⟨e38, hr⟩ := ck_some hr
    refine HT.text (l := ⟨_, true, .raw (.int .i64 (y15 + (1 : Int)))⟩ :: ⟨_, true, .raw (.int .i64 (y15 + (1 : Int)))⟩ :: []) (tl := []) (by kernel_rfl) (by kernel_rfl) (by kernel_rfl) ?_ ?_
    ·exact
      Obls.p (fun R' w' hw hs hd => of_add ((hs 16 rfl).trans h16) rfl e38) <|
      Obls.p (fun R' w' hw hs hd => by have a0 : R' 45 = .int .i64 (y15 + (1 : Int)) := hd.g 0 rfl; exact of_move a0) <|
      Obls.nil
    intro R w hw hs hF'
    replace h3 := (hs 3 rfl).trans h3
    replace h14 := (hs 14 rfl).trans h14
    replace h15 := (hs 15 rfl).trans h15
    have h16 : R 16 = .int .i64 (y15 + (1 : Int)) := hF' 1 _ _ rfl rfl rfl
    replace f_u10 := f_u10.fr hw
    replace f_u37 := f_u37.fr hw
    replace hO := hO.fr hw
    replace hA := hA.fr hw.size
    replace hF := hF.trans hw
    clear hs hF' hw
    refine seqR_nil ?_
    exact Exists.intro k (And.intro (Nat.lt_succ_self k) ⟨_, _, _, u37, hr, hA, hF, hAA, hO, h3, h14, h15, h16, f_u10, f_u37⟩)
   ·have hr := cnd_f c16 hr
    refine HT.exit ?_
    obtain rfl := Option.some.inj hr
    exact Exists.intro _ ⟨_, wl_3, rfl, hA, hF, hAA, hO, h3, f_wl_3⟩
  rintro R w ⟨A, s13, wo_3, es, hA, hF, hAA, hO, h3, f_wo_3⟩
  obtain rfl := es.symm
  refine HT.seq ?_
  refine HT.text (l := ⟨_, true, .raw wo_3⟩ :: ⟨_, true, .raw wo_3⟩ :: []) (tl := []) (by kernel_rfl) (by kernel_rfl) (by kernel_rfl) ?_ ?_
  ·exact
    Obls.p (fun R' w' hw hs hd => of_move ((hs 3 rfl).trans h3)) <|
    Obls.p (fun R' w' hw hs hd => by have a0 : R' 46 = wo_3 := hd.g 0 rfl; exact of_assign a0) <|
    Obls.nil
  intro R w hw hs hF'
  have h2 : R 2 = wo_3 := hF' 1 _ _ rfl rfl rfl
  replace f_wo_3 := f_wo_3.fr hw
  replace hO := hO.fr hw
  replace hA := hA.fr hw.size
  replace hF := hF.trans hw
  clear hs hF' hw
  refine seqR_nil ?_
  refine HT.ret ?_
  obtain rfl := Option.some.inj hr
  exact ⟨.inr rfl, [R 2], ⟨rfl, trivial⟩, (f_wo_3.eq h2).down hAA, hF⟩
def M_laws_eqDiagramNode (fu : Nat) (p0 : T_impl_DiagramNode) (p1 : T_impl_DiagramNode) : Option Bool :=
 bif (p0.1 != p1.1) then (
  some false
 ) else (
  bif (p0.2.1 != p1.2.1) then (
   some false
  ) else (
   bif (p0.2.2.1 != p1.2.2.1) then (
    some false
   ) else (
    bif (p0.2.2.2 != p1.2.2.2) then (
     some false
    ) else (
     some true
    )
   )
  )
 )
theorem M_laws_eqDiagramNode_ok {fu : Nat} {A0 : Av} {p0 : T_impl_DiagramNode} {p1 : T_impl_DiagramNode} {r : Bool} (hr : M_laws_eqDiagramNode fu p0 p1 = some r) {w : World} {v0 : Value} {v1 : Value} (hA : AvOK A0 w) (h0 : Rep E_impl_DiagramNode A0 w v0 p0) (h1 : Rep E_impl_DiagramNode A0 w v1 p1) :
  Calls Tryd.prog 70 #[v0, v1] w fun e w' => ∃ v, e = .returned v ∧ (v = .bool r ∧ Fr w w') := by
 unfold M_laws_eqDiagramNode at hr
 obtain ⟨w0, hw0⟩ : ∃ w0, w0 = w := ⟨_, rfl⟩
 have hF : Fr w0 w := hw0 ▸ Fr.refl _
 have hA0 : ∀ b o, A0 b o → b < w0.heap.size := fun b o h => hw0 ▸ hA b o h
 have hA00 : AvOK A0 w0 := hA0
 rw [show Fr w = Fr w0 from hw0 ▸ rfl]
 clear hw0
 obtain ⟨A, hAe⟩ : ∃ A, A = A0 := ⟨_, rfl⟩
 have hAA : ∀ b o, A0 b o → A b o := fun b o h => hAe ▸ h
 replace hA : AvOK A w := hAe ▸ hA
 have hO : IniOK [] A w := IniOK.nil
 refine calls_of_HT2 [.tmp 4] Tryd.func70 Tryd.ntmps70 (by decide) rfl rfl (Nat.le_of_ble_eq_true rfl) ?_
 intro R hR
 have f_v0 : Rep E_impl_DiagramNode A w v0 p0 := hAe ▸ h0
 replace h0 : R 0 = v0 := hR 0 _ rfl
 have f_v1 : Rep E_impl_DiagramNode A w v1 p1 := hAe ▸ h1
 replace h1 : R 1 = v1 := hR 1 _ rfl
 clear hR hAe
 refine HT.seq ?_
 refine HT.textR [] (⟨_, true, [], some (.box w0.heap.size 63 E_impl_DiagramNode p0), true, fun A => .any⟩ :: ⟨_, true, [], some (.box w0.heap.size 63 E_impl_DiagramNode p1), true, fun A => .any⟩ :: ⟨_, true, [], none, true, fun A => .raw (.bool false)⟩ :: []) (by kernel_rfl) (by kernel_rfl) (Wf.mk' (by kernel_rfl) (UAll.cons ust_any (UAll.cons ust_any (UAll.cons ust_raw (UAll.nil)))) (by kernel_rfl) (by kernel_rfl)) hO hA ?_ ?_
 ·exact
   OblsR.cons (OblR.made _ rfl rfl rfl rfl fun A' R' w' ho hd => by have a0 : R' 0 = v0 := (ho.old 0 rfl).trans h0; have ra0 := (f_v0.stp ho.stp).eq a0; exact made_box ra0 (Nat.le_trans hF.size ho.ch.size)) <|
   OblsR.cons (OblR.made _ rfl rfl rfl rfl fun A' R' w' ho hd => by have a0 : R' 1 = v1 := (ho.old 1 rfl).trans h1; have ra0 := (f_v1.stp ho.stp).eq a0; exact made_box ra0 (Nat.le_trans hF.size ho.ch.size)) <|
   OblsR.p (fun A' R' w' ho hd => of_assign rfl) <|
   OblsR.nil
 intro done ρ σ A R w hdn hI
 obtain ⟨b2_0, e_b2_0⟩ := hI.boxv hdn 0 rfl rfl
 have h2 : R 2 = (.pointer (some ⟨b2_0, 0, none⟩)) := (hI.opvR hdn 0 0 rfl rfl rfl rfl rfl).symm.trans e_b2_0
 obtain ⟨b3_1, e_b3_1⟩ := hI.boxv hdn 1 rfl rfl
 have h3 : R 3 = (.pointer (some ⟨b3_1, 0, none⟩)) := (hI.opvR hdn 1 1 rfl rfl rfl rfl rfl).symm.trans e_b3_1
 replace hAA := hI.low' hAA hA0 (hO.ge (trivial))
 replace hF : Fr w0 w := hF.tr hI.ch (hO.ge (trivial))
 replace hO : IniOK [ob (.pointer (some ⟨b2_0, 0, none⟩)) (.box w0.heap.size 63 E_impl_DiagramNode p0), ob (.pointer (some ⟨b3_1, 0, none⟩)) (.box w0.heap.size 63 E_impl_DiagramNode p1)] A w := hI.left hdn [(0, ob (.pointer (some ⟨b2_0, 0, none⟩)) (.box w0.heap.size 63 E_impl_DiagramNode p0)), (1, ob (.pointer (some ⟨b3_1, 0, none⟩)) (.box w0.heap.size 63 E_impl_DiagramNode p1))] ⟨rfl, rfl, e_b2_0, rfl, rfl, ⟨rfl, rfl, e_b3_1, rfl, rfl, trivial⟩⟩
 replace hA := hI.avok
 clear hI
 refine HT.seq ?_
 refine HT.seq ?_
 refine HT.text (l := ⟨_, true, .raw (.pointer (some ⟨b2_0, 0, none⟩))⟩ :: ⟨_, true, .raw (.int .i64 p0.1)⟩ :: ⟨_, true, .raw (.pointer (some ⟨b3_1, 0, none⟩))⟩ :: ⟨_, true, .raw (.int .i64 p1.1)⟩ :: ⟨_, true, .raw (.bool (p0.1 != p1.1))⟩ :: []) (tl := []) (by kernel_rfl) (by kernel_rfl) (by kernel_rfl) ?_ ?_
 ·exact
   Obls.p (fun R' w' hw hs hd => of_fieldAddr_raw ((hs 2 rfl).trans h2) ff_63_0 Tryd.sizeOf3 (by decide) rfl) <|
   Obls.p (fun R' w' hw hs hd => by have a0 : R' 5 = (.pointer (some ⟨b2_0, 0, none⟩)) := hd.g 0 rfl; exact OpF.int (of_load_box ((hO.fr hw).ok 0 _ rfl).1 a0 fl_impl_DiagramNode_0 rfl Tryd.isAgg3 Tryd.sizeOf3)) <|
   Obls.p (fun R' w' hw hs hd => of_fieldAddr_raw ((hs 3 rfl).trans h3) ff_63_0 Tryd.sizeOf3 (by decide) rfl) <|
   Obls.p (fun R' w' hw hs hd => by have a0 : R' 7 = (.pointer (some ⟨b3_1, 0, none⟩)) := hd.g 0 rfl; exact OpF.int (of_load_box ((hO.fr hw).ok 1 _ rfl).1 a0 fl_impl_DiagramNode_0 rfl Tryd.isAgg3 Tryd.sizeOf3)) <|
   Obls.p (fun R' w' hw hs hd => by have a0 : R' 6 = .int .i64 p0.1 := hd.g 0 rfl; have a1 : R' 8 = .int .i64 p1.1 := hd.g 1 rfl; exact of_neq a0 a1) <|
   Obls.nil
 intro R w hw hs hF'
 replace h2 := (hs 2 rfl).trans h2
 replace h3 := (hs 3 rfl).trans h3
 have h9 : R 9 = .bool (p0.1 != p1.1) := hF' 4 _ _ rfl rfl rfl
 replace hO := hO.fr hw
 replace hA := hA.fr hw.size
 replace hF := hF.trans hw
 clear hs hF' hw
 refine seqR_nil ?_
 refine HT.cond (p0.1 != p1.1) h9 (fun c3 => ?_) (fun c3 => ?_)
 ·have hr := cnd_t c3 hr
  refine HT.seq ?_
  refine HT.text (l := ⟨_, true, .raw (.bool false)⟩ :: []) (tl := []) (by kernel_rfl) (by kernel_rfl) (by kernel_rfl) ?_ ?_
  ·exact
    Obls.p (fun R' w' hw hs hd => of_assign rfl) <|
    Obls.nil
  intro R w hw hs hF'
  have h4 : R 4 = .bool false := hF' 0 _ _ rfl rfl rfl
  replace hO := hO.fr hw
  replace hO : IniOK [] A w := hO.sub [] trivial
  replace hA := hA.fr hw.size
  replace hF := hF.trans hw
  clear hs hF' hw
  refine seqR_nil ?_
  refine HT.ret ?_
  obtain rfl := Option.some.inj hr
  exact ⟨.inr rfl, [R 4], ⟨rfl, trivial⟩, h4, hF⟩
 ·have hr := cnd_f c3 hr
  refine HT.skip ?_
  refine HT.seq ?_
  refine HT.seq ?_
  refine HT.text (l := ⟨_, true, .raw (.pointer (some ⟨b2_0, 1, none⟩))⟩ :: ⟨_, true, .raw (.int .i64 p0.2.1)⟩ :: ⟨_, true, .raw (.pointer (some ⟨b3_1, 1, none⟩))⟩ :: ⟨_, true, .raw (.int .i64 p1.2.1)⟩ :: ⟨_, true, .raw (.bool (p0.2.1 != p1.2.1))⟩ :: []) (tl := []) (by kernel_rfl) (by kernel_rfl) (by kernel_rfl) ?_ ?_
  ·exact
    Obls.p (fun R' w' hw hs hd => of_fieldAddr_raw ((hs 2 rfl).trans h2) ff_63_1 Tryd.sizeOf3 (by decide) rfl) <|
    Obls.p (fun R' w' hw hs hd => by have a0 : R' 10 = (.pointer (some ⟨b2_0, 1, none⟩)) := hd.g 0 rfl; exact OpF.int (of_load_box ((hO.fr hw).ok 0 _ rfl).1 a0 fl_impl_DiagramNode_1 rfl Tryd.isAgg3 Tryd.sizeOf3)) <|
    Obls.p (fun R' w' hw hs hd => of_fieldAddr_raw ((hs 3 rfl).trans h3) ff_63_1 Tryd.sizeOf3 (by decide) rfl) <|
    Obls.p (fun R' w' hw hs hd => by have a0 : R' 12 = (.pointer (some ⟨b3_1, 1, none⟩)) := hd.g 0 rfl; exact OpF.int (of_load_box ((hO.fr hw).ok 1 _ rfl).1 a0 fl_impl_DiagramNode_1 rfl Tryd.isAgg3 Tryd.sizeOf3)) <|
    Obls.p (fun R' w' hw hs hd => by have a0 : R' 11 = .int .i64 p0.2.1 := hd.g 0 rfl; have a1 : R' 13 = .int .i64 p1.2.1 := hd.g 1 rfl; exact of_neq a0 a1) <|
    Obls.nil
  intro R w hw hs hF'
  replace h2 := (hs 2 rfl).trans h2
  replace h3 := (hs 3 rfl).trans h3
  have h14 : R 14 = .bool (p0.2.1 != p1.2.1) := hF' 4 _ _ rfl rfl rfl
  replace hO := hO.fr hw
  replace hA := hA.fr hw.size
  replace hF := hF.trans hw
  clear hs hF' hw
  refine seqR_nil ?_
  refine HT.cond (p0.2.1 != p1.2.1) h14 (fun c4 => ?_) (fun c4 => ?_)
  ·have hr := cnd_t c4 hr
   refine HT.seq ?_
   refine HT.text (l := ⟨_, true, .raw (.bool false)⟩ :: []) (tl := []) (by kernel_rfl) (by kernel_rfl) (by kernel_rfl) ?_ ?_
   ·exact
     Obls.p (fun R' w' hw hs hd => of_assign rfl) <|
     Obls.nil
   intro R w hw hs hF'
   have h4 : R 4 = .bool false := hF' 0 _ _ rfl rfl rfl
   replace hO := hO.fr hw
   replace hO : IniOK [] A w := hO.sub [] trivial
   replace hA := hA.fr hw.size
   replace hF := hF.trans hw
   clear hs hF' hw
   refine seqR_nil ?_
   refine HT.ret ?_
   obtain rfl := Option.some.inj hr
   exact ⟨.inr rfl, [R 4], ⟨rfl, trivial⟩, h4, hF⟩
  ·have hr := cnd_f c4 hr
   refine HT.skip ?_
   refine HT.seq ?_
   refine HT.seq ?_
   refine HT.text (l := ⟨_, true, .raw (.pointer (some ⟨b2_0, 2, none⟩))⟩ :: ⟨_, true, .raw (.int .i64 p0.2.2.1)⟩ :: ⟨_, true, .raw (.pointer (some ⟨b3_1, 2, none⟩))⟩ :: ⟨_, true, .raw (.int .i64 p1.2.2.1)⟩ :: ⟨_, true, .raw (.bool (p0.2.2.1 != p1.2.2.1))⟩ :: []) (tl := []) (by kernel_rfl) (by kernel_rfl) (by kernel_rfl) ?_ ?_
   ·exact
     Obls.p (fun R' w' hw hs hd => of_fieldAddr_raw ((hs 2 rfl).trans h2) ff_63_2 Tryd.sizeOf3 (by decide) rfl) <|
     Obls.p (fun R' w' hw hs hd => by have a0 : R' 15 = (.pointer (some ⟨b2_0, 2, none⟩)) := hd.g 0 rfl; exact OpF.int (of_load_box ((hO.fr hw).ok 0 _ rfl).1 a0 fl_impl_DiagramNode_2 rfl Tryd.isAgg3 Tryd.sizeOf3)) <|
     Obls.p (fun R' w' hw hs hd => of_fieldAddr_raw ((hs 3 rfl).trans h3) ff_63_2 Tryd.sizeOf3 (by decide) rfl) <|
     Obls.p (fun R' w' hw hs hd => by have a0 : R' 17 = (.pointer (some ⟨b3_1, 2, none⟩)) := hd.g 0 rfl; exact OpF.int (of_load_box ((hO.fr hw).ok 1 _ rfl).1 a0 fl_impl_DiagramNode_2 rfl Tryd.isAgg3 Tryd.sizeOf3)) <|
     Obls.p (fun R' w' hw hs hd => by have a0 : R' 16 = .int .i64 p0.2.2.1 := hd.g 0 rfl; have a1 : R' 18 = .int .i64 p1.2.2.1 := hd.g 1 rfl; exact of_neq a0 a1) <|
     Obls.nil
   intro R w hw hs hF'
   replace h2 := (hs 2 rfl).trans h2
   replace h3 := (hs 3 rfl).trans h3
   have h19 : R 19 = .bool (p0.2.2.1 != p1.2.2.1) := hF' 4 _ _ rfl rfl rfl
   replace hO := hO.fr hw
   replace hA := hA.fr hw.size
   replace hF := hF.trans hw
   clear hs hF' hw
   refine seqR_nil ?_
   refine HT.cond (p0.2.2.1 != p1.2.2.1) h19 (fun c5 => ?_) (fun c5 => ?_)
   ·have hr := cnd_t c5 hr
    refine HT.seq ?_
    refine HT.text (l := ⟨_, true, .raw (.bool false)⟩ :: []) (tl := []) (by kernel_rfl) (by kernel_rfl) (by kernel_rfl) ?_ ?_
    ·exact
      Obls.p (fun R' w' hw hs hd => of_assign rfl) <|
      Obls.nil
    intro R w hw hs hF'
    have h4 : R 4 = .bool false := hF' 0 _ _ rfl rfl rfl
    replace hO := hO.fr hw
    replace hO : IniOK [] A w := hO.sub [] trivial
    replace hA := hA.fr hw.size
    replace hF := hF.trans hw
    clear hs hF' hw
    refine seqR_nil ?_
    refine HT.ret ?_
    obtain rfl := Option.some.inj hr
    exact ⟨.inr rfl, [R 4], ⟨rfl, trivial⟩, h4, hF⟩
   ·have hr := cnd_f c5 hr
    refine HT.skip ?_
    refine HT.seq ?_
    refine HT.seq ?_
    refine HT.text (l := ⟨_, true, .raw (.pointer (some ⟨b2_0, 3, none⟩))⟩ :: ⟨_, true, .raw (.int .i64 p0.2.2.2)⟩ :: ⟨_, true, .raw (.pointer (some ⟨b3_1, 3, none⟩))⟩ :: ⟨_, true, .raw (.int .i64 p1.2.2.2)⟩ :: ⟨_, true, .raw (.bool (p0.2.2.2 != p1.2.2.2))⟩ :: []) (tl := []) (by kernel_rfl) (by kernel_rfl) (by kernel_rfl) ?_ ?_
    ·exact
      Obls.p (fun R' w' hw hs hd => of_fieldAddr_raw ((hs 2 rfl).trans h2) ff_63_3 Tryd.sizeOf3 (by decide) rfl) <|
      Obls.p (fun R' w' hw hs hd => by have a0 : R' 20 = (.pointer (some ⟨b2_0, 3, none⟩)) := hd.g 0 rfl; exact OpF.int (of_load_box ((hO.fr hw).ok 0 _ rfl).1 a0 fl_impl_DiagramNode_3 rfl Tryd.isAgg3 Tryd.sizeOf3)) <|
      Obls.p (fun R' w' hw hs hd => of_fieldAddr_raw ((hs 3 rfl).trans h3) ff_63_3 Tryd.sizeOf3 (by decide) rfl) <|
      Obls.p (fun R' w' hw hs hd => by have a0 : R' 22 = (.pointer (some ⟨b3_1, 3, none⟩)) := hd.g 0 rfl; exact OpF.int (of_load_box ((hO.fr hw).ok 1 _ rfl).1 a0 fl_impl_DiagramNode_3 rfl Tryd.isAgg3 Tryd.sizeOf3)) <|
      Obls.p (fun R' w' hw hs hd => by have a0 : R' 21 = .int .i64 p0.2.2.2 := hd.g 0 rfl; have a1 : R' 23 = .int .i64 p1.2.2.2 := hd.g 1 rfl; exact of_neq a0 a1) <|
      Obls.nil
    intro R w hw hs hF'
    have h24 : R 24 = .bool (p0.2.2.2 != p1.2.2.2) := hF' 4 _ _ rfl rfl rfl
    replace hO := hO.fr hw
    replace hO : IniOK [] A w := hO.sub [] trivial
    replace hA := hA.fr hw.size
    replace hF := hF.trans hw
    clear hs hF' hw
    refine seqR_nil ?_
    refine HT.cond (p0.2.2.2 != p1.2.2.2) h24 (fun c6 => ?_) (fun c6 => ?_)
    ·have hr := cnd_t c6 hr
     refine HT.seq ?_
     refine HT.text (l := ⟨_, true, .raw (.bool false)⟩ :: []) (tl := []) (by kernel_rfl) (by kernel_rfl) (by kernel_rfl) ?_ ?_
     ·exact
       Obls.p (fun R' w' hw hs hd => of_assign rfl) <|
       Obls.nil
     intro R w hw hs hF'
     have h4 : R 4 = .bool false := hF' 0 _ _ rfl rfl rfl
     replace hO := hO.fr hw
     replace hA := hA.fr hw.size
     replace hF := hF.trans hw
     clear hs hF' hw
     refine seqR_nil ?_
     refine HT.ret ?_
     obtain rfl := Option.some.inj hr
     exact ⟨.inr rfl, [R 4], ⟨rfl, trivial⟩, h4, hF⟩
    ·have hr := cnd_f c6 hr
     refine HT.skip ?_
     refine HT.seq ?_
     refine HT.text (l := ⟨_, true, .raw (.bool true)⟩ :: []) (tl := []) (by kernel_rfl) (by kernel_rfl) (by kernel_rfl) ?_ ?_
     ·exact
       Obls.p (fun R' w' hw hs hd => of_assign rfl) <|
       Obls.nil
     intro R w hw hs hF'
     have h4 : R 4 = .bool true := hF' 0 _ _ rfl rfl rfl
     replace hO := hO.fr hw
     replace hA := hA.fr hw.size
     replace hF := hF.trans hw
     clear hs hF' hw
     refine seqR_nil ?_
     refine HT.ret ?_
     obtain rfl := Option.some.inj hr
     exact ⟨.inr rfl, [R 4], ⟨rfl, trivial⟩, h4, hF⟩
def M_laws_eqDiagramNodeS_L0 (fu : Nat) (p0 : List T_impl_DiagramNode) (p1 : List T_impl_DiagramNode) : Nat → Int → Option (Ex Bool Unit)
 | 0, _ => none
 | k + 1, y5 =>
  bif (decide (y5 < (p0.length : Int))) then (
   ck (inR y5 p0.length) <|
   ck (inR y5 p1.length) <|
   cl true (M_laws_eqDiagramNode fu (gtD p0 y5) (gtD p1 y5)) fun x9 =>
   bif (!x9) then (
    some (Ex.ret false)
   ) else (
    ck (i64B (y5 + (1 : Int))) <|
    M_laws_eqDiagramNodeS_L0 fu p0 p1 k (y5 + (1 : Int))
   )
  ) else (
   some (Ex.go ())
  )
def M_laws_eqDiagramNodeS (fu : Nat) (p0 : List T_impl_DiagramNode) (p1 : List T_impl_DiagramNode) : Option Bool :=
 bif ((p0.length : Int) != (p1.length : Int)) then (
  some false
 ) else (
  cl true (M_laws_eqDiagramNodeS_L0 fu p0 p1 fu (0 : Int)) fun rl2 =>
  exM rl2 (fun r => some r) fun s4 =>
  some true
 )
theorem M_laws_eqDiagramNodeS_ok {fu : Nat} {A : Av} {p0 : List T_impl_DiagramNode} {p1 : List T_impl_DiagramNode} {r : Bool} (hr : M_laws_eqDiagramNodeS fu p0 p1 = some r) {w : World} {v0 : Value} {v1 : Value} (hA : AvOK A w) (h0 : Rep (eSl E_impl_DiagramNode) A w v0 p0) (h1 : Rep (eSl E_impl_DiagramNode) A w v1 p1) :
  Calls Tryd.prog 41 #[v0, v1] w fun e w' => ∃ v, e = .returned v ∧ (v = .bool r ∧ Fr w w') := by
 unfold M_laws_eqDiagramNodeS at hr
 obtain ⟨w0, hw0⟩ : ∃ w0, w0 = w := ⟨_, rfl⟩
 have hF : Fr w0 w := hw0 ▸ Fr.refl _
 rw [show Fr w = Fr w0 from hw0 ▸ rfl]
 clear hw0
 refine calls_of_HT2 [.tmp 4] Tryd.func41 Tryd.ntmps41 (by decide) rfl rfl (Nat.le_of_ble_eq_true rfl) ?_
 intro R hR
 have f_v0 := h0
 replace h0 : R 0 = v0 := hR 0 _ rfl
 have f_v1 := h1
 replace h1 : R 1 = v1 := hR 1 _ rfl
 clear hR
 refine HT.seq ?_
 refine HT.text (l := ⟨_, true, .raw (.bool false)⟩ :: []) (tl := []) (by kernel_rfl) (by kernel_rfl) (by kernel_rfl) ?_ ?_
 ·exact
   Obls.p (fun R' w' hw hs hd => of_assign rfl) <|
   Obls.nil
 intro R w hw hs hF'
 replace h0 := (hs 0 rfl).trans h0
 replace h1 := (hs 1 rfl).trans h1
 replace f_v0 := f_v0.fr hw
 replace f_v1 := f_v1.fr hw
 replace hA := hA.fr hw.size
 replace hF := hF.trans hw
 clear hs hF' hw
 refine seqR_nil ?_
 refine HT.seq ?_
 refine HT.seq ?_
 refine HT.text (l := ⟨_, true, .raw v0⟩ :: ⟨_, true, .raw (.int .i64 (p0.length : Int))⟩ :: ⟨_, true, .raw v1⟩ :: ⟨_, true, .raw (.int .i64 (p1.length : Int))⟩ :: ⟨_, true, .raw (.bool ((p0.length : Int) != (p1.length : Int)))⟩ :: []) (tl := []) (by kernel_rfl) (by kernel_rfl) (by kernel_rfl) ?_ ?_
 ·exact
   Obls.p (fun R' w' hw hs hd => of_move ((hs 0 rfl).trans h0)) <|
   Obls.p (fun R' w' hw hs hd => by have a0 : R' 6 = v0 := hd.g 0 rfl; have ra0 := (f_v0.fr hw).eq a0; exact of_len_sl (aT := #[]) ra0 Tryd.underlying32) <|
   Obls.p (fun R' w' hw hs hd => of_move ((hs 1 rfl).trans h1)) <|
   Obls.p (fun R' w' hw hs hd => by have a0 : R' 8 = v1 := hd.g 0 rfl; have ra0 := (f_v1.fr hw).eq a0; exact of_len_sl (aT := #[]) ra0 Tryd.underlying32) <|
   Obls.p (fun R' w' hw hs hd => by have a0 : R' 7 = .int .i64 (p0.length : Int) := hd.g 0 rfl; have a1 : R' 9 = .int .i64 (p1.length : Int) := hd.g 1 rfl; exact of_neq a0 a1) <|
   Obls.nil
 intro R w hw hs hF'
 replace h0 := (hs 0 rfl).trans h0
 replace h1 := (hs 1 rfl).trans h1
 have h10 : R 10 = .bool ((p0.length : Int) != (p1.length : Int)) := hF' 4 _ _ rfl rfl rfl
 replace f_v0 := f_v0.fr hw
 replace f_v1 := f_v1.fr hw
 replace hA := hA.fr hw.size
 replace hF := hF.trans hw
 clear hs hF' hw
 refine seqR_nil ?_
 refine HT.cond ((p0.length : Int) != (p1.length : Int)) h10 (fun c1 => ?_) (fun c1 => ?_)
 ·have hr := cnd_t c1 hr
  refine HT.seq ?_
  refine HT.text (l := ⟨_, true, .raw (.bool false)⟩ :: []) (tl := []) (by kernel_rfl) (by kernel_rfl) (by kernel_rfl) ?_ ?_
  ·exact
    Obls.p (fun R' w' hw hs hd => of_assign rfl) <|
    Obls.nil
  intro R w hw hs hF'
  have h4 : R 4 = .bool false := hF' 0 _ _ rfl rfl rfl
  replace hA := hA.fr hw.size
  replace hF := hF.trans hw
  clear hs hF' hw
  refine seqR_nil ?_
  refine HT.ret ?_
  obtain rfl := Option.some.inj hr
  exact ⟨.inr rfl, [R 4], ⟨rfl, trivial⟩, h4, hF⟩
 ·have hr := cnd_f c1 hr
  refine HT.skip ?_
  refine HT.seq ?_
  refine HT.seq ?_
  refine HT.text (l := ⟨_, true, .raw (.int .i64 (0 : Int))⟩ :: []) (tl := []) (by kernel_rfl) (by kernel_rfl) (by kernel_rfl) ?_ ?_
  ·exact
    Obls.p (fun R' w' hw hs hd => of_assign rfl) <|
    Obls.nil
  intro R w hw hs hF'
  replace h0 := (hs 0 rfl).trans h0
  replace h1 := (hs 1 rfl).trans h1
  have h5 : R 5 = .int .i64 (0 : Int) := hF' 0 _ _ rfl rfl rfl
  replace f_v0 := f_v0.fr hw
  replace f_v1 := f_v1.fr hw
  replace hA := hA.fr hw.size
  replace hF := hF.trans hw
  clear hs hF' hw
  refine seqR_nil ?_
  obtain ⟨rl2, q3, hr⟩ := cl_some hr
  replace q3 := q3 rfl
  refine HT.cut0 (fun R w => ∃ (s4 : Unit), rl2 = Ex.go s4 ∧ AvOK A w ∧ Fr w0 w) ?_ ?_
  ·refine HT.block ?_
   refine HT.loop (fun k R w => ∃ (y5 : Int), M_laws_eqDiagramNodeS_L0 fu p0 p1 k y5 = some rl2 ∧ AvOK A w ∧ Fr w0 w ∧ R 0 = v0 ∧ R 1 = v1 ∧ R 5 = .int .i64 y5 ∧ Rep (eSl E_impl_DiagramNode) A w v0 p0 ∧ Rep (eSl E_impl_DiagramNode) A w v1 p1) fu ⟨_, q3, hA, hF, h0, h1, h5, f_v0, f_v1⟩ ?_
   have hr0 := hr; clear hr q3
   rintro k R w ⟨y5, hr, hA, hF, h0, h1, h5, f_v0, f_v1⟩
   rcases k with _ | k
   ·cases (show none = some _ from hr)
   rw [M_laws_eqDiagramNodeS_L0] at hr
   refine HT.seq ?_
   refine HT.seq ?_
   refine HT.text (l := ⟨_, true, .raw (.int .i64 y5)⟩ :: ⟨_, true, .raw v0⟩ :: ⟨_, true, .raw (.int .i64 (p0.length : Int))⟩ :: ⟨_, true, .raw (.bool (decide (y5 < (p0.length : Int))))⟩ :: []) (tl := []) (by kernel_rfl) (by kernel_rfl) (by kernel_rfl) ?_ ?_
   ·exact
     Obls.p (fun R' w' hw hs hd => of_move ((hs 5 rfl).trans h5)) <|
     Obls.p (fun R' w' hw hs hd => of_move ((hs 0 rfl).trans h0)) <|
     Obls.p (fun R' w' hw hs hd => by have a0 : R' 12 = v0 := hd.g 0 rfl; have ra0 := (f_v0.fr hw).eq a0; exact of_len_sl (aT := #[]) ra0 Tryd.underlying32) <|
     Obls.p (fun R' w' hw hs hd => by have a0 : R' 11 = .int .i64 y5 := hd.g 0 rfl; have a1 : R' 13 = .int .i64 (p0.length : Int) := hd.g 1 rfl; exact of_lss a0 a1) <|
     Obls.nil
   intro R w hw hs hF'
   replace h0 := (hs 0 rfl).trans h0
   replace h1 := (hs 1 rfl).trans h1
   replace h5 := (hs 5 rfl).trans h5
   have h14 : R 14 = .bool (decide (y5 < (p0.length : Int))) := hF' 3 _ _ rfl rfl rfl
   replace f_v0 := f_v0.fr hw
   replace f_v1 := f_v1.fr hw
   replace hA := hA.fr hw.size
   replace hF := hF.trans hw
   clear hs hF' hw
   refine seqR_nil ?_
   refine HT.cond (decide (y5 < (p0.length : Int))) h14 (fun c6 => ?_) (fun c6 => ?_)
   ·have hr := cnd_t c6 hr
    refine HT.skip ?_
    refine HT.seq ?_
    refine HT.block ?_
    refine HT.seq ?_
    obtain ⟨e7, hr⟩ := ck_some hr
    obtain ⟨e8, hr⟩ := ck_some hr
    obtain ⟨x9, q10, hr⟩ := cl_some hr
    refine HT.draw (by kernel_rfl) (l := ⟨_, true, .raw v0⟩ :: ⟨_, true, .raw (.int .i64 y5)⟩ :: ⟨_, true, .qtr E_impl_DiagramNode A (gtD p0 y5)⟩ :: ⟨_, true, .rep E_impl_DiagramNode A (gtD p0 y5)⟩ :: ⟨_, true, .raw v1⟩ :: ⟨_, true, .raw (.int .i64 y5)⟩ :: ⟨_, true, .qtr E_impl_DiagramNode A (gtD p1 y5)⟩ :: ⟨_, true, .rep E_impl_DiagramNode A (gtD p1 y5)⟩ :: ⟨_, true, .raw (.bool x9)⟩ :: ⟨_, true, .raw (.bool (!x9))⟩ :: []) (tl := []) (by kernel_rfl) (by kernel_rfl) (by kernel_rfl) (by kernel_rfl) ?_ ?_
    ·exact
      Obls.p (fun R' w' hw hs hd => of_move ((hs 0 rfl).trans h0)) <|
      Obls.p (fun R' w' hw hs hd => of_move ((hs 5 rfl).trans h5)) <|
      Obls.p (fun R' w' hw hs hd => by have a0 : R' 17 = v0 := hd.g 0 rfl; have a1 : R' 18 = .int .i64 y5 := hd.g 1 rfl; have ra0 := (f_v0.fr hw).eq a0; exact of_indexAddr ra0 a1 Tryd.underlying32 Tryd.sizeOf63 e7) <|
      Obls.p (fun R' w' hw hs hd => by have a0 : QRep E_impl_DiagramNode A w' (R' 19) (gtD p0 y5) := hd.g 0 rfl; exact (of_load a0.ptr Tryd.isAgg63 Tryd.sizeOf63)) <|
      Obls.p (fun R' w' hw hs hd => of_move ((hs 1 rfl).trans h1)) <|
      Obls.p (fun R' w' hw hs hd => of_move ((hs 5 rfl).trans h5)) <|
      Obls.p (fun R' w' hw hs hd => by have a0 : R' 21 = v1 := hd.g 0 rfl; have a1 : R' 22 = .int .i64 y5 := hd.g 1 rfl; have ra0 := (f_v1.fr hw).eq a0; exact of_indexAddr ra0 a1 Tryd.underlying32 Tryd.sizeOf63 e8) <|
      Obls.p (fun R' w' hw hs hd => by have a0 : QRep E_impl_DiagramNode A w' (R' 23) (gtD p1 y5) := hd.g 0 rfl; exact (of_load a0.ptr Tryd.isAgg63 Tryd.sizeOf63)) <|
      Obls.p (fun R' w' hw hs hd => by have a0 : Rep E_impl_DiagramNode A w' (R' 20) (gtD p0 y5) := hd.g 0 rfl; have a1 : Rep E_impl_DiagramNode A w' (R' 24) (gtD p1 y5) := hd.g 1 rfl; exact of_call Tryd.call70 (M_laws_eqDiagramNode_ok (q10 rfl) (hA.fr hw.size) a0 a1)) <|
      Obls.p (fun R' w' hw hs hd => by have a0 : R' 25 = .bool x9 := hd.g 0 rfl; exact of_not a0) <|
      Obls.nil
    intro R w hw hs hF'
    replace h0 := (hs 0 rfl).trans h0
    replace h1 := (hs 1 rfl).trans h1
    replace h5 := (hs 5 rfl).trans h5
    have h26 : R 26 = .bool (!x9) := hF' 9 _ _ rfl rfl rfl
    replace f_v0 := f_v0.fr hw
    replace f_v1 := f_v1.fr hw
    replace hA := hA.fr hw.size
    replace hF := hF.trans hw
    clear hs hF' hw
    refine seqR_nil ?_
    refine HT.cond (!x9) h26 (fun c11 => ?_) (fun c11 => ?_)
    ·have hr := cnd_t c11 hr
     refine HT.seq ?_
     refine HT.text (l := ⟨_, true, .raw (.bool false)⟩ :: []) (tl := []) (by kernel_rfl) (by kernel_rfl) (by kernel_rfl) ?_ ?_
     ·exact
       Obls.p (fun R' w' hw hs hd => of_assign rfl) <|
       Obls.nil
     intro R w hw hs hF'
     have h4 : R 4 = .bool false := hF' 0 _ _ rfl rfl rfl
     replace hA := hA.fr hw.size
     replace hF := hF.trans hw
     clear hs hF' hw
     refine seqR_nil ?_
     refine HT.ret ?_
     obtain rfl := Option.some.inj hr
     have hr := hr0
     replace hr : some _ = some _ := hr
     obtain rfl := Option.some.inj hr
     exact ⟨.inr rfl, [R 4], ⟨rfl, trivial⟩, h4, hF⟩
    ·have hr := cnd_f c11 hr
     refine HT.skip ?_
     obtain ⟨e12, hr⟩ := ck_some hr
     refine HT.text (l := ⟨_, true, .raw (.int .i64 y5)⟩ :: ⟨_, true, .raw (.int .i64 (y5 + (1 : Int)))⟩ :: ⟨_, true, .raw (.int .i64 (y5 + (1 : Int)))⟩ :: []) (tl := []) (by kernel_rfl) (by kernel_rfl) (by kernel_rfl) ?_ ?_
     ·exact
       Obls.p (fun R' w' hw hs hd => of_move ((hs 5 rfl).trans h5)) <|
       Obls.p (fun R' w' hw hs hd => by have a0 : R' 15 = .int .i64 y5 := hd.g 0 rfl; exact of_add a0 rfl e12) <|
       Obls.p (fun R' w' hw hs hd => by have a0 : R' 16 = .int .i64 (y5 + (1 : Int)) := hd.g 0 rfl; exact of_assign a0) <|
       Obls.nil
     intro R w hw hs hF'
     replace h0 := (hs 0 rfl).trans h0
     replace h1 := (hs 1 rfl).trans h1
     have h5 : R 5 = .int .i64 (y5 + (1 : Int)) := hF' 2 _ _ rfl rfl rfl
     replace f_v0 := f_v0.fr hw
     replace f_v1 := f_v1.fr hw
     replace hA := hA.fr hw.size
     replace hF := hF.trans hw
     clear hs hF' hw
     refine seqR_nil ?_
     exact Exists.intro k (And.intro (Nat.lt_succ_self k) ⟨_, hr, hA, hF, h0, h1, h5, f_v0, f_v1⟩)
   ·have hr := cnd_f c6 hr
    refine HT.exit ?_
    obtain rfl := Option.some.inj hr
    exact Exists.intro _ ⟨rfl, hA, hF⟩
  rintro R w ⟨s4, rfl, hA, hF⟩
  have hr := exM_go hr
  refine HT.seq ?_
  refine HT.text (l := ⟨_, true, .raw (.bool true)⟩ :: []) (tl := []) (by kernel_rfl) (by kernel_rfl) (by kernel_rfl) ?_ ?_
  ·exact
    Obls.p (fun R' w' hw hs hd => of_assign rfl) <|
    Obls.nil
  intro R w hw hs hF'
  have h4 : R 4 = .bool true := hF' 0 _ _ rfl rfl rfl
  replace hA := hA.fr hw.size
  replace hF := hF.trans hw
  clear hs hF' hw
  refine seqR_nil ?_
  refine HT.ret ?_
  obtain rfl := Option.some.inj hr
  exact ⟨.inr rfl, [R 4], ⟨rfl, trivial⟩, h4, hF⟩
def M_laws_eqDiagram (fu : Nat) (p0 : T_impl_Diagram) (p1 : T_impl_Diagram) : Option Bool :=
 bif (p0.1 != p1.1) then (
  some false
 ) else (
  cl true (M_laws_eqDiagramNodeS fu p0.2 p1.2) fun x4 =>
  bif (!x4) then (
   some false
  ) else (
   some true
  )
 )
theorem M_laws_eqDiagram_ok {fu : Nat} {A0 : Av} {p0 : T_impl_Diagram} {p1 : T_impl_Diagram} {r : Bool} (hr : M_laws_eqDiagram fu p0 p1 = some r) {w : World} {v0 : Value} {v1 : Value} (hA : AvOK A0 w) (h0 : Rep E_impl_Diagram A0 w v0 p0) (h1 : Rep E_impl_Diagram A0 w v1 p1) :
  Calls Tryd.prog 16 #[v0, v1] w fun e w' => ∃ v, e = .returned v ∧ (v = .bool r ∧ Fr w w') := by
 unfold M_laws_eqDiagram at hr
 obtain ⟨w0, hw0⟩ : ∃ w0, w0 = w := ⟨_, rfl⟩
 have hF : Fr w0 w := hw0 ▸ Fr.refl _
 have hA0 : ∀ b o, A0 b o → b < w0.heap.size := fun b o h => hw0 ▸ hA b o h
 have hA00 : AvOK A0 w0 := hA0
 rw [show Fr w = Fr w0 from hw0 ▸ rfl]
 clear hw0
 obtain ⟨A, hAe⟩ : ∃ A, A = A0 := ⟨_, rfl⟩
 have hAA : ∀ b o, A0 b o → A b o := fun b o h => hAe ▸ h
 replace hA : AvOK A w := hAe ▸ hA
 have hO : IniOK [] A w := IniOK.nil
 refine calls_of_HT2 [.tmp 4] Tryd.func16 Tryd.ntmps16 (by decide) rfl rfl (Nat.le_of_ble_eq_true rfl) ?_
 intro R hR
 have f_v0 : Rep E_impl_Diagram A w v0 p0 := hAe ▸ h0
 replace h0 : R 0 = v0 := hR 0 _ rfl
 have f_v1 : Rep E_impl_Diagram A w v1 p1 := hAe ▸ h1
 replace h1 : R 1 = v1 := hR 1 _ rfl
 clear hR hAe
 refine HT.seq ?_
 refine HT.textR [] (⟨_, true, [], some (.box w0.heap.size 34 E_impl_Diagram p0), true, fun A => .any⟩ :: ⟨_, true, [], some (.box w0.heap.size 34 E_impl_Diagram p1), true, fun A => .any⟩ :: ⟨_, true, [], none, true, fun A => .raw (.bool false)⟩ :: []) (by kernel_rfl) (by kernel_rfl) (Wf.mk' (by kernel_rfl) (UAll.cons ust_any (UAll.cons ust_any (UAll.cons ust_raw (UAll.nil)))) (by kernel_rfl) (by kernel_rfl)) hO hA ?_ ?_
 ·exact
   OblsR.cons (OblR.made _ rfl rfl rfl rfl fun A' R' w' ho hd => by have a0 : R' 0 = v0 := (ho.old 0 rfl).trans h0; have ra0 := (f_v0.stp ho.stp).eq a0; exact made_box ra0 (Nat.le_trans hF.size ho.ch.size)) <|
   OblsR.cons (OblR.made _ rfl rfl rfl rfl fun A' R' w' ho hd => by have a0 : R' 1 = v1 := (ho.old 1 rfl).trans h1; have ra0 := (f_v1.stp ho.stp).eq a0; exact made_box ra0 (Nat.le_trans hF.size ho.ch.size)) <|
   OblsR.p (fun A' R' w' ho hd => of_assign rfl) <|
   OblsR.nil
 intro done ρ σ A R w hdn hI
 obtain ⟨b2_0, e_b2_0⟩ := hI.boxv hdn 0 rfl rfl
 have h2 : R 2 = (.pointer (some ⟨b2_0, 0, none⟩)) := (hI.opvR hdn 0 0 rfl rfl rfl rfl rfl).symm.trans e_b2_0
 obtain ⟨b3_1, e_b3_1⟩ := hI.boxv hdn 1 rfl rfl
 have h3 : R 3 = (.pointer (some ⟨b3_1, 0, none⟩)) := (hI.opvR hdn 1 1 rfl rfl rfl rfl rfl).symm.trans e_b3_1
 replace hAA := hI.low' hAA hA0 (hO.ge (trivial))
 replace hF : Fr w0 w := hF.tr hI.ch (hO.ge (trivial))
 replace hO : IniOK [ob (.pointer (some ⟨b2_0, 0, none⟩)) (.box w0.heap.size 34 E_impl_Diagram p0), ob (.pointer (some ⟨b3_1, 0, none⟩)) (.box w0.heap.size 34 E_impl_Diagram p1)] A w := hI.left hdn [(0, ob (.pointer (some ⟨b2_0, 0, none⟩)) (.box w0.heap.size 34 E_impl_Diagram p0)), (1, ob (.pointer (some ⟨b3_1, 0, none⟩)) (.box w0.heap.size 34 E_impl_Diagram p1))] ⟨rfl, rfl, e_b2_0, rfl, rfl, ⟨rfl, rfl, e_b3_1, rfl, rfl, trivial⟩⟩
 replace hA := hI.avok
 clear hI
 refine HT.seq ?_
 refine HT.seq ?_
 refine HT.text (l := ⟨_, true, .raw (.pointer (some ⟨b2_0, 0, none⟩))⟩ :: ⟨_, true, .raw (.int .i64 p0.1)⟩ :: ⟨_, true, .raw (.pointer (some ⟨b3_1, 0, none⟩))⟩ :: ⟨_, true, .raw (.int .i64 p1.1)⟩ :: ⟨_, true, .raw (.bool (p0.1 != p1.1))⟩ :: []) (tl := []) (by kernel_rfl) (by kernel_rfl) (by kernel_rfl) ?_ ?_
 ·exact
   Obls.p (fun R' w' hw hs hd => of_fieldAddr_raw ((hs 2 rfl).trans h2) ff_34_0 Tryd.sizeOf3 (by decide) rfl) <|
   Obls.p (fun R' w' hw hs hd => by have a0 : R' 5 = (.pointer (some ⟨b2_0, 0, none⟩)) := hd.g 0 rfl; exact OpF.int (of_load_box ((hO.fr hw).ok 0 _ rfl).1 a0 fl_impl_Diagram_0 rfl Tryd.isAgg3 Tryd.sizeOf3)) <|
   Obls.p (fun R' w' hw hs hd => of_fieldAddr_raw ((hs 3 rfl).trans h3) ff_34_0 Tryd.sizeOf3 (by decide) rfl) <|
   Obls.p (fun R' w' hw hs hd => by have a0 : R' 7 = (.pointer (some ⟨b3_1, 0, none⟩)) := hd.g 0 rfl; exact OpF.int (of_load_box ((hO.fr hw).ok 1 _ rfl).1 a0 fl_impl_Diagram_0 rfl Tryd.isAgg3 Tryd.sizeOf3)) <|
   Obls.p (fun R' w' hw hs hd => by have a0 : R' 6 = .int .i64 p0.1 := hd.g 0 rfl; have a1 : R' 8 = .int .i64 p1.1 := hd.g 1 rfl; exact of_neq a0 a1) <|
   Obls.nil
 intro R w hw hs hF'
 replace h2 := (hs 2 rfl).trans h2
 replace h3 := (hs 3 rfl).trans h3
 have h9 : R 9 = .bool (p0.1 != p1.1) := hF' 4 _ _ rfl rfl rfl
 replace hO := hO.fr hw
 replace hA := hA.fr hw.size
 replace hF := hF.trans hw
 clear hs hF' hw
 refine seqR_nil ?_
 refine HT.cond (p0.1 != p1.1) h9 (fun c3 => ?_) (fun c3 => ?_)
 ·have hr := cnd_t c3 hr
  refine HT.seq ?_
  refine HT.text (l := ⟨_, true, .raw (.bool false)⟩ :: []) (tl := []) (by kernel_rfl) (by kernel_rfl) (by kernel_rfl) ?_ ?_
  ·exact
    Obls.p (fun R' w' hw hs hd => of_assign rfl) <|
    Obls.nil
  intro R w hw hs hF'
  have h4 : R 4 = .bool false := hF' 0 _ _ rfl rfl rfl
  replace hO := hO.fr hw
  replace hO : IniOK [] A w := hO.sub [] trivial
  replace hA := hA.fr hw.size
  replace hF := hF.trans hw
  clear hs hF' hw
  refine seqR_nil ?_
  refine HT.ret ?_
  obtain rfl := Option.some.inj hr
  exact ⟨.inr rfl, [R 4], ⟨rfl, trivial⟩, h4, hF⟩
 ·have hr := cnd_f c3 hr
  refine HT.skip ?_
  refine HT.seq ?_
  refine HT.seq ?_
  obtain ⟨x4, q5, hr⟩ := cl_some hr
  refine HT.text (l := ⟨_, true, .raw (.pointer (some ⟨b2_0, 1, none⟩))⟩ :: ⟨_, true, .rep (eSl E_impl_DiagramNode) A p0.2⟩ :: ⟨_, true, .raw (.pointer (some ⟨b3_1, 1, none⟩))⟩ :: ⟨_, true, .rep (eSl E_impl_DiagramNode) A p1.2⟩ :: ⟨_, true, .raw (.bool x4)⟩ :: ⟨_, true, .raw (.bool (!x4))⟩ :: []) (tl := []) (by kernel_rfl) (by kernel_rfl) (by kernel_rfl) ?_ ?_
  ·exact
    Obls.p (fun R' w' hw hs hd => of_fieldAddr_raw ((hs 2 rfl).trans h2) ff_34_1 Tryd.sizeOf32 (by decide) rfl) <|
    Obls.p (fun R' w' hw hs hd => by have a0 : R' 10 = (.pointer (some ⟨b2_0, 1, none⟩)) := hd.g 0 rfl; exact (of_load_box ((hO.fr hw).ok 0 _ rfl).1 a0 fl_impl_Diagram_1 rfl Tryd.isAgg32 Tryd.sizeOf32)) <|
    Obls.p (fun R' w' hw hs hd => of_fieldAddr_raw ((hs 3 rfl).trans h3) ff_34_1 Tryd.sizeOf32 (by decide) rfl) <|
    Obls.p (fun R' w' hw hs hd => by have a0 : R' 12 = (.pointer (some ⟨b3_1, 1, none⟩)) := hd.g 0 rfl; exact (of_load_box ((hO.fr hw).ok 1 _ rfl).1 a0 fl_impl_Diagram_1 rfl Tryd.isAgg32 Tryd.sizeOf32)) <|
    Obls.p (fun R' w' hw hs hd => by have a0 : Rep (eSl E_impl_DiagramNode) A w' (R' 11) p0.2 := hd.g 0 rfl; have a1 : Rep (eSl E_impl_DiagramNode) A w' (R' 13) p1.2 := hd.g 1 rfl; exact of_call Tryd.call41 (M_laws_eqDiagramNodeS_ok (q5 rfl) (hA.fr hw.size) a0 a1)) <|
    Obls.p (fun R' w' hw hs hd => by have a0 : R' 14 = .bool x4 := hd.g 0 rfl; exact of_not a0) <|
    Obls.nil
  intro R w hw hs hF'
  have h15 : R 15 = .bool (!x4) := hF' 5 _ _ rfl rfl rfl
  replace hO := hO.fr hw
  replace hO : IniOK [] A w := hO.sub [] trivial
  replace hA := hA.fr hw.size
  replace hF := hF.trans hw
  clear hs hF' hw
  refine seqR_nil ?_
  refine HT.cond (!x4) h15 (fun c6 => ?_) (fun c6 => ?_)
  ·have hr := cnd_t c6 hr
   refine HT.seq ?_
   refine HT.text (l := ⟨_, true, .raw (.bool false)⟩ :: []) (tl := []) (by kernel_rfl) (by kernel_rfl) (by kernel_rfl) ?_ ?_
   ·exact
     Obls.p (fun R' w' hw hs hd => of_assign rfl) <|
     Obls.nil
   intro R w hw hs hF'
   have h4 : R 4 = .bool false := hF' 0 _ _ rfl rfl rfl
   replace hO := hO.fr hw
   replace hA := hA.fr hw.size
   replace hF := hF.trans hw
   clear hs hF' hw
   refine seqR_nil ?_
   refine HT.ret ?_
   obtain rfl := Option.some.inj hr
   exact ⟨.inr rfl, [R 4], ⟨rfl, trivial⟩, h4, hF⟩
  ·have hr := cnd_f c6 hr
   refine HT.skip ?_
   refine HT.seq ?_
   refine HT.text (l := ⟨_, true, .raw (.bool true)⟩ :: []) (tl := []) (by kernel_rfl) (by kernel_rfl) (by kernel_rfl) ?_ ?_
   ·exact
     Obls.p (fun R' w' hw hs hd => of_assign rfl) <|
     Obls.nil
   intro R w hw hs hF'
   have h4 : R 4 = .bool true := hF' 0 _ _ rfl rfl rfl
   replace hO := hO.fr hw
   replace hA := hA.fr hw.size
   replace hF := hF.trans hw
   clear hs hF' hw
   refine seqR_nil ?_
   refine HT.ret ?_
   obtain rfl := Option.some.inj hr
   exact ⟨.inr rfl, [R 4], ⟨rfl, trivial⟩, h4, hF⟩
def M_laws_FnExactFormatDiagram (fu : Nat) (p0 : T_laws_Diagram) : Option Bool :=
 cl true (M_laws_szDiagram fu p0 (1048576 : Int)) fun x2 =>
 bif (decide (x2 < (0 : Int))) then (
  some true
 ) else (
  cl true (M_laws_toDiagram fu p0) fun x5 =>
  cl true (M_spec_FormatDiagram fu x5) fun x7 =>
  cl true (M_laws_toDiagram fu p0) fun x10 =>
  cl true (M_impl_FormatDiagram fu x10) fun x15 =>
  bif (!(x15 == x7)) then (
   some false
  ) else (
   cl true (M_laws_toDiagram fu p0) fun x19 =>
   cl true (M_laws_eqDiagram fu x10 x19) fun x21 =>
   bif (!x21) then (
    some false
   ) else (
    some true
   )
  )
 )
theorem M_laws_FnExactFormatDiagram_ok {fu : Nat} {A0 : Av} {p0 : T_laws_Diagram} {r : Bool} (hr : M_laws_FnExactFormatDiagram fu p0 = some r) {w : World} {v0 : Value} (hA : AvOK A0 w) (hG : GTab w) (h0 : Rep E_laws_Diagram A0 w v0 p0) :
  Calls Tryd.prog 4 #[v0] w fun e w' => ∃ v, e = .returned v ∧ (v = .bool r ∧ Fr w w') := by
 unfold M_laws_FnExactFormatDiagram at hr
 obtain ⟨w0, hw0⟩ : ∃ w0, w0 = w := ⟨_, rfl⟩
 have hF : Fr w0 w := hw0 ▸ Fr.refl _
 have hA0 : ∀ b o, A0 b o → b < w0.heap.size := fun b o h => hw0 ▸ hA b o h
 have hA00 : AvOK A0 w0 := hA0
 rw [show Fr w = Fr w0 from hw0 ▸ rfl]
 have hG0 : GTab w0 := hw0 ▸ hG
 clear hw0
 obtain ⟨A, hAe⟩ : ∃ A, A = A0 := ⟨_, rfl⟩
 have hAA : ∀ b o, A0 b o → A b o := fun b o h => hAe ▸ h
 replace hA : AvOK A w := hAe ▸ hA
 have hO : IniOK [] A w := IniOK.nil
 refine calls_of_HT2 [.tmp 2] Tryd.func4 Tryd.ntmps4 (by decide) rfl rfl (Nat.le_of_ble_eq_true rfl) ?_
 intro R hR
 have f_v0 : Rep E_laws_Diagram A w v0 p0 := hAe ▸ h0
 replace h0 : R 0 = v0 := hR 0 _ rfl
 clear hR hAe
 refine HT.seq ?_
 refine HT.textR [] (⟨_, true, [], some (.box w0.heap.size 29 E_laws_Diagram p0), true, fun A => .any⟩ :: ⟨_, true, [], none, true, fun A => .raw (.bool false)⟩ :: []) (by kernel_rfl) (by kernel_rfl) (Wf.mk' (by kernel_rfl) (UAll.cons ust_any (UAll.cons ust_raw (UAll.nil))) (by kernel_rfl) (by kernel_rfl)) hO hA ?_ ?_
 ·exact
   OblsR.cons (OblR.made _ rfl rfl rfl rfl fun A' R' w' ho hd => by have a0 : R' 0 = v0 := (ho.old 0 rfl).trans h0; have ra0 := (f_v0.stp ho.stp).eq a0; exact made_box ra0 (Nat.le_trans hF.size ho.ch.size)) <|
   OblsR.p (fun A' R' w' ho hd => of_assign rfl) <|
   OblsR.nil
 intro done ρ σ A R w hdn hI
 obtain ⟨b1_0, e_b1_0⟩ := hI.boxv hdn 0 rfl rfl
 have h1 : R 1 = (.pointer (some ⟨b1_0, 0, none⟩)) := (hI.opvR hdn 0 0 rfl rfl rfl rfl rfl).symm.trans e_b1_0
 replace hAA := hI.low' hAA hA0 (hO.ge (trivial))
 replace hF : Fr w0 w := hF.tr hI.ch (hO.ge (trivial))
 replace hO : IniOK [ob (.pointer (some ⟨b1_0, 0, none⟩)) (.box w0.heap.size 29 E_laws_Diagram p0)] A w := hI.left hdn [(0, ob (.pointer (some ⟨b1_0, 0, none⟩)) (.box w0.heap.size 29 E_laws_Diagram p0))] ⟨rfl, rfl, e_b1_0, rfl, rfl, trivial⟩
 replace hA := hI.avok
 clear hI
 refine HT.seq ?_
 refine HT.text (l := ⟨_, true, .raw (.int .i64 (1048576 : Int))⟩ :: []) (tl := []) (by kernel_rfl) (by kernel_rfl) (by kernel_rfl) ?_ ?_
 ·exact
   Obls.p (fun R' w' hw hs hd => of_assign rfl) <|
   Obls.nil
 intro R w hw hs hF'
 replace h1 := (hs 1 rfl).trans h1
 have h3 : R 3 = .int .i64 (1048576 : Int) := hF' 0 _ _ rfl rfl rfl
 replace hO := hO.fr hw
 replace hA := hA.fr hw.size
 replace hF := hF.trans hw
 clear hs hF' hw
 refine seqR_nil ?_
 refine HT.seq ?_
 obtain ⟨x2, q3, hr⟩ := cl_some hr
 refine HT.text (l := ⟨_, true, .rep E_laws_Diagram A p0⟩ :: ⟨_, true, .raw (.int .i64 (1048576 : Int))⟩ :: ⟨_, true, .raw (.int .i64 x2)⟩ :: ⟨_, true, .raw (.int .i64 x2)⟩ :: []) (tl := []) (by kernel_rfl) (by kernel_rfl) (by kernel_rfl) ?_ ?_
 ·exact
   Obls.p (fun R' w' hw hs hd => (of_load_box ((hO.fr hw).ok 0 _ rfl).1 ((hs 1 rfl).trans h1) (Fld.id _) rfl Tryd.isAgg29 Tryd.sizeOf29)) <|
   Obls.p (fun R' w' hw hs hd => of_move ((hs 3 rfl).trans h3)) <|
   Obls.p (fun R' w' hw hs hd => by have a0 : Rep E_laws_Diagram A w' (R' 7) p0 := hd.g 0 rfl; have a1 : R' 8 = .int .i64 (1048576 : Int) := hd.g 1 rfl; exact of_call Tryd.call12 (M_laws_szDiagram_ok (q3 rfl) (hA.fr hw.size) a0 a1)) <|
   Obls.p (fun R' w' hw hs hd => by have a0 : R' 9 = .int .i64 x2 := hd.g 0 rfl; exact of_assign a0) <|
   Obls.nil
 intro R w hw hs hF'
 replace h1 := (hs 1 rfl).trans h1
 have h3 : R 3 = .int .i64 x2 := hF' 3 _ _ rfl rfl rfl
 replace hO := hO.fr hw
 replace hA := hA.fr hw.size
 replace hF := hF.trans hw
 clear hs hF' hw
 refine seqR_nil ?_
 refine HT.seq ?_
 refine HT.seq ?_
 refine HT.text (l := ⟨_, true, .raw (.int .i64 x2)⟩ :: ⟨_, true, .raw (.bool (decide (x2 < (0 : Int))))⟩ :: []) (tl := []) (by kernel_rfl) (by kernel_rfl) (by kernel_rfl) ?_ ?_
 ·exact
   Obls.p (fun R' w' hw hs hd => of_move ((hs 3 rfl).trans h3)) <|
   Obls.p (fun R' w' hw hs hd => by have a0 : R' 10 = .int .i64 x2 := hd.g 0 rfl; exact of_lss a0 rfl) <|
   Obls.nil
 intro R w hw hs hF'
 replace h1 := (hs 1 rfl).trans h1
 have h11 : R 11 = .bool (decide (x2 < (0 : Int))) := hF' 1 _ _ rfl rfl rfl
 replace hO := hO.fr hw
 replace hA := hA.fr hw.size
 replace hF := hF.trans hw
 clear hs hF' hw
 refine seqR_nil ?_
 refine HT.cond (decide (x2 < (0 : Int))) h11 (fun c4 => ?_) (fun c4 => ?_)
 ·have hr := cnd_t c4 hr
  refine HT.seq ?_
  refine HT.text (l := ⟨_, true, .raw (.bool true)⟩ :: []) (tl := []) (by kernel_rfl) (by kernel_rfl) (by kernel_rfl) ?_ ?_
  ·exact
    Obls.p (fun R' w' hw hs hd => of_assign rfl) <|
    Obls.nil
  intro R w hw hs hF'
  have h2 : R 2 = .bool true := hF' 0 _ _ rfl rfl rfl
  replace hO := hO.fr hw
  replace hO : IniOK [] A w := hO.sub [] trivial
  replace hA := hA.fr hw.size
  replace hF := hF.trans hw
  clear hs hF' hw
  refine seqR_nil ?_
  refine HT.ret ?_
  obtain rfl := Option.some.inj hr
  exact ⟨.inr rfl, [R 2], ⟨rfl, trivial⟩, h2, hF⟩
 ·have hr := cnd_f c4 hr
  refine HT.skip ?_
  refine HT.seq ?_
  obtain ⟨x5, q6, hr⟩ := cl_some hr
  obtain ⟨x7, q8, hr⟩ := cl_some hr
  refine HT.text (l := ⟨_, true, .rep E_laws_Diagram A p0⟩ :: ⟨_, true, .rep E_impl_Diagram A x5⟩ :: ⟨_, true, .rep eStr A x7⟩ :: ⟨_, true, .rep eStr A x7⟩ :: []) (tl := []) (by kernel_rfl) (by kernel_rfl) (by kernel_rfl) ?_ ?_
  ·exact
    Obls.p (fun R' w' hw hs hd => (of_load_box ((hO.fr hw).ok 0 _ rfl).1 ((hs 1 rfl).trans h1) (Fld.id _) rfl Tryd.isAgg29 Tryd.sizeOf29)) <|
    Obls.p (fun R' w' hw hs hd => by have a0 : Rep E_laws_Diagram A w' (R' 12) p0 := hd.g 0 rfl; exact of_call Tryd.call14 (M_laws_toDiagram_okR (q6 rfl) (hA.fr hw.size) a0)) <|
    Obls.p (fun R' w' hw hs hd => by have a0 : Rep E_impl_Diagram A w' (R' 13) x5 := hd.g 0 rfl; exact of_call Tryd.call13 (M_spec_FormatDiagram_ok (q8 rfl) (hA.fr hw.size) a0)) <|
    Obls.p (fun R' w' hw hs hd => by have a0 : Rep eStr A w' (R' 14) x7 := hd.g 0 rfl; exact of_assign a0) <|
    Obls.nil
  intro R w hw hs hF'
  replace h1 := (hs 1 rfl).trans h1
  obtain ⟨u9, h4, f_u9⟩ : ∃ u, R 4 = u ∧ Rep eStr A w u x7 := ⟨_, rfl, hF' 3 _ _ rfl rfl rfl⟩
  replace hO := hO.fr hw
  replace hA := hA.fr hw.size
  replace hF := hF.trans hw
  clear hs hF' hw
  refine seqR_nil ?_
  refine HT.seq ?_
  obtain ⟨x10, q11, hr⟩ := cl_some hr
  refine HT.textR [ob (.pointer (some ⟨b1_0, 0, none⟩)) (.box w0.heap.size 29 E_laws_Diagram p0)] (⟨_, true, [], none, true, fun A => .rep E_laws_Diagram A p0⟩ :: ⟨_, true, [], none, true, fun A => .rep E_impl_Diagram A x10⟩ :: ⟨_, true, [], some (.box w0.heap.size 34 E_impl_Diagram ((0 : Int), ([] : List T_impl_DiagramNode))), true, fun A => .any⟩ :: ⟨_, true, [3], some (.box w0.heap.size 34 E_impl_Diagram x10), false, fun A => .any⟩ :: []) (by kernel_rfl) (by kernel_rfl) (Wf.mk' (by kernel_rfl) (UAll.cons ust_rep (UAll.cons ust_rep (UAll.cons ust_any (UAll.cons ust_any (UAll.nil))))) (by kernel_rfl) (by kernel_rfl)) hO hA ?_ ?_
  ·exact
    OblsR.p (fun A' R' w' ho hd => (of_load_box (ho.rd 0 _ rfl rfl) ((ho.old 1 rfl).trans h1) (Fld.id _) rfl Tryd.isAgg29 Tryd.sizeOf29)) <|
    OblsR.p (fun A' R' w' ho hd => by have a0 : Rep E_laws_Diagram A' w' (R' 15) p0 := hd.g 0 rfl; exact of_call Tryd.call14 (M_laws_toDiagram_okR (q11 rfl) ho.av a0)) <|
    OblsR.cons (OblR.made _ rfl rfl rfl rfl fun A' R' w' ho hd => by exact made_alloc Tryd.zeroValue34 (fun A w => rep_pr rep1_int rep1_nil) (Nat.le_trans hF.size ho.ch.size)) <|
    OblsR.cons (OblR.took 3 _ _ rfl rfl rfl rfl rfl fun A' R' w' ho hd u hok hav hin hop hds => by have a1 : Rep E_impl_Diagram A' w' (R' 16) x10 := hd.g 1 rfl; obtain ⟨b, hb, hB', hbx⟩ := hok; have hop' := hop _ _ rfl rfl rfl rfl; exact took_store a1 (hop'.symm.trans hb) hb ⟨b, hb, hB', hbx⟩ hav (FldS.id _) Tryd.sizeOf34 rfl) <|
    OblsR.nil
  intro done ρ σ A R w hdn hI
  replace h1 : R 1 = (.pointer (some ⟨b1_0, 0, none⟩)) := (hI.reg rfl).trans h1
  replace h4 : R 4 = u9 := (hI.reg rfl).trans h4
  have z12 := hI.inivR 0 rfl
  obtain ⟨b5_12, e_b5_12⟩ := hI.boxv hdn 4 rfl rfl
  have z14 := (hI.opnR hdn 4 3 rfl rfl rfl rfl rfl).symm.trans e_b5_12
  have h5 : R 5 = (.pointer (some ⟨b5_12, 0, none⟩)) := (hI.opvR hdn 3 2 rfl rfl rfl rfl rfl).symm.trans z14
  replace f_u9 := f_u9.stp hI.stp
  replace hAA := hI.low' hAA hA0 (hO.ge (⟨rfl, trivial⟩))
  replace hF : Fr w0 w := hF.tr hI.ch (hO.ge (⟨rfl, trivial⟩))
  replace hO : IniOK [ob (.pointer (some ⟨b1_0, 0, none⟩)) (.box w0.heap.size 29 E_laws_Diagram p0), ob (.pointer (some ⟨b5_12, 0, none⟩)) (.box w0.heap.size 34 E_impl_Diagram x10)] A w := hI.left hdn [(0, ob (.pointer (some ⟨b1_0, 0, none⟩)) (.box w0.heap.size 29 E_laws_Diagram p0)), (4, ob (.pointer (some ⟨b5_12, 0, none⟩)) (.box w0.heap.size 34 E_impl_Diagram x10))] ⟨rfl, rfl, z12, rfl, rfl, ⟨rfl, rfl, e_b5_12, rfl, rfl, trivial⟩⟩
  replace hA := hI.avok
  clear hI
  refine HT.seq ?_
  obtain ⟨x15, q16, hr⟩ := cl_some hr
  refine HT.text (l := ⟨_, true, .rep E_impl_Diagram A x10⟩ :: ⟨_, true, .rep eStr A x15⟩ :: ⟨_, true, .rep eStr A x15⟩ :: []) (tl := []) (by kernel_rfl) (by kernel_rfl) (by kernel_rfl) ?_ ?_
  ·exact
    Obls.p (fun R' w' hw hs hd => (of_load_box ((hO.fr hw).ok 1 _ rfl).1 ((hs 5 rfl).trans h5) (Fld.id _) rfl Tryd.isAgg34 Tryd.sizeOf34)) <|
    Obls.p (fun R' w' hw hs hd => by have a0 : Rep E_impl_Diagram A w' (R' 17) x10 := hd.g 0 rfl; exact of_call Tryd.call15 (M_impl_FormatDiagram_ok (q16 rfl) (hA.fr hw.size) (hG0.fr (hF.trans hw)) a0)) <|
    Obls.p (fun R' w' hw hs hd => by have a0 : Rep eStr A w' (R' 18) x15 := hd.g 0 rfl; exact of_assign a0) <|
    Obls.nil
  intro R w hw hs hF'
  replace h1 := (hs 1 rfl).trans h1
  replace h4 := (hs 4 rfl).trans h4
  replace h5 := (hs 5 rfl).trans h5
  obtain ⟨u17, h6, f_u17⟩ : ∃ u, R 6 = u ∧ Rep eStr A w u x15 := ⟨_, rfl, hF' 2 _ _ rfl rfl rfl⟩
  replace f_u9 := f_u9.fr hw
  replace hO := hO.fr hw
  replace hA := hA.fr hw.size
  replace hF := hF.trans hw
  clear hs hF' hw
  refine seqR_nil ?_
  refine HT.seq ?_
  refine HT.seq ?_
  refine HT.text (l := ⟨_, true, .raw u17⟩ :: ⟨_, true, .raw u9⟩ :: ⟨_, true, .raw (.bool (!(x15 == x7)))⟩ :: []) (tl := []) (by kernel_rfl) (by kernel_rfl) (by kernel_rfl) ?_ ?_
  ·exact
    Obls.p (fun R' w' hw hs hd => of_move ((hs 6 rfl).trans h6)) <|
    Obls.p (fun R' w' hw hs hd => of_move ((hs 4 rfl).trans h4)) <|
    Obls.p (fun R' w' hw hs hd => by have a0 : R' 19 = u17 := hd.g 0 rfl; have ra0 := (f_u17.fr hw).eq a0; have a1 : R' 20 = u9 := hd.g 1 rfl; have ra1 := (f_u9.fr hw).eq a1; exact of_sneq ra0 ra1) <|
    Obls.nil
  intro R w hw hs hF'
  replace h1 := (hs 1 rfl).trans h1
  replace h5 := (hs 5 rfl).trans h5
  have h21 : R 21 = .bool (!(x15 == x7)) := hF' 2 _ _ rfl rfl rfl
  replace hO := hO.fr hw
  replace hA := hA.fr hw.size
  replace hF := hF.trans hw
  clear hs hF' hw
  refine seqR_nil ?_
  refine HT.cond (!(x15 == x7)) h21 (fun c18 => ?_) (fun c18 => ?_)
  ·have hr := cnd_t c18 hr
   refine HT.seq ?_
   refine HT.text (l := ⟨_, true, .raw (.bool false)⟩ :: []) (tl := []) (by kernel_rfl) (by kernel_rfl) (by kernel_rfl) ?_ ?_
   ·exact
     Obls.p (fun R' w' hw hs hd => of_assign rfl) <|
     Obls.nil
   intro R w hw hs hF'
   have h2 : R 2 = .bool false := hF' 0 _ _ rfl rfl rfl
   replace hO := hO.fr hw
   replace hO : IniOK [] A w := hO.sub [] trivial
   replace hA := hA.fr hw.size
   replace hF := hF.trans hw
   clear hs hF' hw
   refine seqR_nil ?_
   refine HT.ret ?_
   obtain rfl := Option.some.inj hr
   exact ⟨.inr rfl, [R 2], ⟨rfl, trivial⟩, h2, hF⟩
  ·have hr := cnd_f c18 hr
   refine HT.skip ?_
   refine HT.seq ?_
   refine HT.seq ?_
   obtain ⟨x19, q20, hr⟩ := cl_some hr
   obtain ⟨x21, q22, hr⟩ := cl_some hr
   refine HT.draw (by kernel_rfl) (l := ⟨_, true, .rep E_impl_Diagram A x10⟩ :: ⟨_, true, .rep E_laws_Diagram A p0⟩ :: ⟨_, true, .rep E_impl_Diagram A x19⟩ :: ⟨_, true, .raw (.bool x21)⟩ :: ⟨_, true, .raw (.bool (!x21))⟩ :: []) (tl := []) (by kernel_rfl) (by kernel_rfl) (by kernel_rfl) (by kernel_rfl) ?_ ?_
   ·exact
     Obls.p (fun R' w' hw hs hd => (of_load_box ((hO.fr hw).ok 1 _ rfl).1 ((hs 5 rfl).trans h5) (Fld.id _) rfl Tryd.isAgg34 Tryd.sizeOf34)) <|
     Obls.p (fun R' w' hw hs hd => (of_load_box ((hO.fr hw).ok 0 _ rfl).1 ((hs 1 rfl).trans h1) (Fld.id _) rfl Tryd.isAgg29 Tryd.sizeOf29)) <|
     Obls.p (fun R' w' hw hs hd => by have a0 : Rep E_laws_Diagram A w' (R' 23) p0 := hd.g 0 rfl; exact of_call Tryd.call14 (M_laws_toDiagram_okR (q20 rfl) (hA.fr hw.size) a0)) <|
     Obls.p (fun R' w' hw hs hd => by have a0 : Rep E_impl_Diagram A w' (R' 22) x10 := hd.g 0 rfl; have a1 : Rep E_impl_Diagram A w' (R' 24) x19 := hd.g 1 rfl; exact of_call Tryd.call16 (M_laws_eqDiagram_ok (q22 rfl) (hA.fr hw.size) a0 a1)) <|
     Obls.p (fun R' w' hw hs hd => by have a0 : R' 25 = .bool x21 := hd.g 0 rfl; exact of_not a0) <|
     Obls.nil
   intro R w hw hs hF'
   have h26 : R 26 = .bool (!x21) := hF' 4 _ _ rfl rfl rfl
   replace hO := hO.fr hw
   replace hO : IniOK [] A w := hO.sub [] trivial
   replace hA := hA.fr hw.size
   replace hF := hF.trans hw
   clear hs hF' hw
   refine seqR_nil ?_
   refine HT.cond (!x21) h26 (fun c23 => ?_) (fun c23 => ?_)
   ·have hr := cnd_t c23 hr
    refine HT.seq ?_
    refine HT.text (l := ⟨_, true, .raw (.bool false)⟩ :: []) (tl := []) (by kernel_rfl) (by kernel_rfl) (by kernel_rfl) ?_ ?_
    ·exact
      Obls.p (fun R' w' hw hs hd => of_assign rfl) <|
      Obls.nil
    intro R w hw hs hF'
    have h2 : R 2 = .bool false := hF' 0 _ _ rfl rfl rfl
    replace hO := hO.fr hw
    replace hA := hA.fr hw.size
    replace hF := hF.trans hw
    clear hs hF' hw
    refine seqR_nil ?_
    refine HT.ret ?_
    obtain rfl := Option.some.inj hr
    exact ⟨.inr rfl, [R 2], ⟨rfl, trivial⟩, h2, hF⟩
   ·have hr := cnd_f c23 hr
    refine HT.skip ?_
    refine HT.seq ?_
    refine HT.text (l := ⟨_, true, .raw (.bool true)⟩ :: []) (tl := []) (by kernel_rfl) (by kernel_rfl) (by kernel_rfl) ?_ ?_
    ·exact
      Obls.p (fun R' w' hw hs hd => of_assign rfl) <|
      Obls.nil
    intro R w hw hs hF'
    have h2 : R 2 = .bool true := hF' 0 _ _ rfl rfl rfl
    replace hO := hO.fr hw
    replace hA := hA.fr hw.size
    replace hF := hF.trans hw
    clear hs hF' hw
    refine seqR_nil ?_
    refine HT.ret ?_
    obtain rfl := Option.some.inj hr
    exact ⟨.inr rfl, [R 2], ⟨rfl, trivial⟩, h2, hF⟩
end Go.Proofs.YtjdnomcpepbdaaaDoor
