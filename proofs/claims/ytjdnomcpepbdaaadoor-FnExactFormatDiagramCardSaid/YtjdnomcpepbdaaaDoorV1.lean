/- Printed by dec.py: plain functions and the proofs that the code computes them. No statement of the seat is proved here. -/
import Derived.Test.YtjdnomcpepbdaaaDoorGt
namespace Go.Proofs.YtjdnomcpepbdaaaDoor
open Go.RowKit
set_option linter.unusedVariables false
set_option maxRecDepth 100000
set_option maxHeartbeats 4000000
def M_laws_szDiagramNodeS (fu : Nat) (p0 : List T_impl_DiagramNode) (p1 : Int) : Option Int :=
 ck (i64B (p1 - (p0.length : Int))) <|
 bif (decide ((p1 - (p0.length : Int)) < (0 : Int))) then (
  some (-1 : Int)
 ) else (
  some (p1 - (p0.length : Int))
 )
theorem M_laws_szDiagramNodeS_ok {fu : Nat} {A : Av} {p0 : List T_impl_DiagramNode} {p1 : Int} {r : Int} (hr : M_laws_szDiagramNodeS fu p0 p1 = some r) {w : World} {v0 : Value} {v1 : Value} (hA : AvOK A w) (h0 : Rep (eSl E_impl_DiagramNode) A w v0 p0) (h1 : v1 = .int .i64 p1) :
  Calls Tryd.prog 36 #[v0, v1] w fun e w' => ∃ v, e = .returned v ∧ (v = .int .i64 r ∧ Fr w w') := by
 unfold M_laws_szDiagramNodeS at hr
 obtain ⟨w0, hw0⟩ : ∃ w0, w0 = w := ⟨_, rfl⟩
 have hF : Fr w0 w := hw0 ▸ Fr.refl _
 rw [show Fr w = Fr w0 from hw0 ▸ rfl]
 clear hw0
 refine calls_of_HT2 [.tmp 4] Tryd.func36 Tryd.ntmps36 (by decide) rfl rfl (Nat.le_of_ble_eq_true rfl) ?_
 intro R hR
 have f_v0 := h0
 replace h0 : R 0 = v0 := hR 0 _ rfl
 replace h1 : R 1 = .int .i64 p1 := (hR 1 _ rfl).trans h1
 clear hR
 refine HT.seq ?_
 refine HT.text (l := ⟨_, true, .raw (.int .i64 (0 : Int))⟩ :: []) (tl := []) (by kernel_rfl) (by kernel_rfl) (by kernel_rfl) ?_ ?_
 ·exact
   Obls.p (fun R' w' hw hs hd => of_assign rfl) <|
   Obls.nil
 intro R w hw hs hF'
 replace h0 := (hs 0 rfl).trans h0
 replace h1 := (hs 1 rfl).trans h1
 replace f_v0 := f_v0.fr hw
 replace hA := hA.fr hw.size
 replace hF := hF.trans hw
 clear hs hF' hw
 refine seqR_nil ?_
 refine HT.seq ?_
 obtain ⟨e1, hr⟩ := ck_some hr
 refine HT.text (l := ⟨_, true, .raw (.int .i64 p1)⟩ :: ⟨_, true, .raw v0⟩ :: ⟨_, true, .raw (.int .i64 (p0.length : Int))⟩ :: ⟨_, true, .raw (.int .i64 (p1 - (p0.length : Int)))⟩ :: ⟨_, true, .raw (.int .i64 (p1 - (p0.length : Int)))⟩ :: []) (tl := []) (by kernel_rfl) (by kernel_rfl) (by kernel_rfl) ?_ ?_
 ·exact
   Obls.p (fun R' w' hw hs hd => of_move ((hs 1 rfl).trans h1)) <|
   Obls.p (fun R' w' hw hs hd => of_move ((hs 0 rfl).trans h0)) <|
   Obls.p (fun R' w' hw hs hd => by have a0 : R' 6 = v0 := hd.g 0 rfl; have ra0 := (f_v0.fr hw).eq a0; exact of_len_sl (aT := #[]) ra0 Tryd.underlying27) <|
   Obls.p (fun R' w' hw hs hd => by have a0 : R' 5 = .int .i64 p1 := hd.g 0 rfl; have a1 : R' 7 = .int .i64 (p0.length : Int) := hd.g 1 rfl; exact of_sub a0 a1 e1) <|
   Obls.p (fun R' w' hw hs hd => by have a0 : R' 8 = .int .i64 (p1 - (p0.length : Int)) := hd.g 0 rfl; exact of_assign a0) <|
   Obls.nil
 intro R w hw hs hF'
 have h1 : R 1 = .int .i64 (p1 - (p0.length : Int)) := hF' 4 _ _ rfl rfl rfl
 replace hA := hA.fr hw.size
 replace hF := hF.trans hw
 clear hs hF' hw
 refine seqR_nil ?_
 refine HT.seq ?_
 refine HT.seq ?_
 refine HT.text (l := ⟨_, true, .raw (.int .i64 (p1 - (p0.length : Int)))⟩ :: ⟨_, true, .raw (.bool (decide ((p1 - (p0.length : Int)) < (0 : Int))))⟩ :: []) (tl := []) (by kernel_rfl) (by kernel_rfl) (by kernel_rfl) ?_ ?_
 ·exact
   Obls.p (fun R' w' hw hs hd => of_move ((hs 1 rfl).trans h1)) <|
   Obls.p (fun R' w' hw hs hd => by have a0 : R' 9 = .int .i64 (p1 - (p0.length : Int)) := hd.g 0 rfl; exact of_lss a0 rfl) <|
   Obls.nil
 intro R w hw hs hF'
 replace h1 := (hs 1 rfl).trans h1
 have h10 : R 10 = .bool (decide ((p1 - (p0.length : Int)) < (0 : Int))) := hF' 1 _ _ rfl rfl rfl
 replace hA := hA.fr hw.size
 replace hF := hF.trans hw
 clear hs hF' hw
 refine seqR_nil ?_
 refine HT.cond (decide ((p1 - (p0.length : Int)) < (0 : Int))) h10 (fun c2 => ?_) (fun c2 => ?_)
 ·have hr := cnd_t c2 hr
  refine HT.seq ?_
  refine HT.text (l := ⟨_, true, .raw (.int .i64 (-1 : Int))⟩ :: []) (tl := []) (by kernel_rfl) (by kernel_rfl) (by kernel_rfl) ?_ ?_
  ·exact
    Obls.p (fun R' w' hw hs hd => of_assign rfl) <|
    Obls.nil
  intro R w hw hs hF'
  have h4 : R 4 = .int .i64 (-1 : Int) := hF' 0 _ _ rfl rfl rfl
  replace hA := hA.fr hw.size
  replace hF := hF.trans hw
  clear hs hF' hw
  refine seqR_nil ?_
  refine HT.ret ?_
  obtain rfl := Option.some.inj hr
  exact ⟨.inr rfl, [R 4], ⟨rfl, trivial⟩, h4, hF⟩
 ·have hr := cnd_f c2 hr
  refine HT.skip ?_
  refine HT.seq ?_
  refine HT.text (l := ⟨_, true, .raw (.int .i64 (p1 - (p0.length : Int)))⟩ :: ⟨_, true, .raw (.int .i64 (p1 - (p0.length : Int)))⟩ :: []) (tl := []) (by kernel_rfl) (by kernel_rfl) (by kernel_rfl) ?_ ?_
  ·exact
    Obls.p (fun R' w' hw hs hd => of_move ((hs 1 rfl).trans h1)) <|
    Obls.p (fun R' w' hw hs hd => by have a0 : R' 11 = .int .i64 (p1 - (p0.length : Int)) := hd.g 0 rfl; exact of_assign a0) <|
    Obls.nil
  intro R w hw hs hF'
  have h4 : R 4 = .int .i64 (p1 - (p0.length : Int)) := hF' 1 _ _ rfl rfl rfl
  replace hA := hA.fr hw.size
  replace hF := hF.trans hw
  clear hs hF' hw
  refine seqR_nil ?_
  refine HT.ret ?_
  obtain rfl := Option.some.inj hr
  exact ⟨.inr rfl, [R 4], ⟨rfl, trivial⟩, h4, hF⟩
def M_laws_szDiagram (fu : Nat) (p0 : T_laws_Diagram) (p1 : Int) : Option Int :=
 cl true (M_laws_szDiagramNodeS fu p0.2 p1) fun x2 =>
 bif (decide (x2 < (0 : Int))) then (
  some (-1 : Int)
 ) else (
  some x2
 )
theorem M_laws_szDiagram_ok {fu : Nat} {A0 : Av} {p0 : T_laws_Diagram} {p1 : Int} {r : Int} (hr : M_laws_szDiagram fu p0 p1 = some r) {w : World} {v0 : Value} {v1 : Value} (hA : AvOK A0 w) (h0 : Rep E_laws_Diagram A0 w v0 p0) (h1 : v1 = .int .i64 p1) :
  Calls Tryd.prog 12 #[v0, v1] w fun e w' => ∃ v, e = .returned v ∧ (v = .int .i64 r ∧ Fr w w') := by
 unfold M_laws_szDiagram at hr
 obtain ⟨w0, hw0⟩ : ∃ w0, w0 = w := ⟨_, rfl⟩
 have hF : Fr w0 w := hw0 ▸ Fr.refl _
 have hA0 : ∀ b o, A0 b o → b < w0.heap.size := fun b o h => hw0 ▸ hA b o h
 have hA00 : AvOK A0 w0 := hA0
 rw [show Fr w = Fr w0 from hw0 ▸ rfl]
 clear hw0
 obtain ⟨A, hAe⟩ : ∃ A, A = A0 := ⟨_, rfl⟩
 have hAA : ∀ b o, A0 b o → A b o := fun b o h => hAe ▸ h
 replace hA : AvOK A w := hAe ▸ hA
 have hO : IniOK [] A w := IniOK.nil
 refine calls_of_HT2 [.tmp 4] Tryd.func12 Tryd.ntmps12 (by decide) rfl rfl (Nat.le_of_ble_eq_true rfl) ?_
 intro R hR
 have f_v0 : Rep E_laws_Diagram A w v0 p0 := hAe ▸ h0
 replace h0 : R 0 = v0 := hR 0 _ rfl
 replace h1 : R 1 = .int .i64 p1 := (hR 1 _ rfl).trans h1
 clear hR hAe
 refine HT.seq ?_
 refine HT.textR [] (⟨_, true, [], some (.box w0.heap.size 29 E_laws_Diagram p0), true, fun A => .any⟩ :: ⟨_, true, [], none, true, fun A => .raw (.int .i64 (0 : Int))⟩ :: []) (by kernel_rfl) (by kernel_rfl) (Wf.mk' (by kernel_rfl) (UAll.cons ust_any (UAll.cons ust_raw (UAll.nil))) (by kernel_rfl) (by kernel_rfl)) hO hA ?_ ?_
 ·exact
   OblsR.cons (OblR.made _ rfl rfl rfl rfl fun A' R' w' ho hd => by have a0 : R' 0 = v0 := (ho.old 0 rfl).trans h0; have ra0 := (f_v0.stp ho.stp).eq a0; exact made_box ra0 (Nat.le_trans hF.size ho.ch.size)) <|
   OblsR.p (fun A' R' w' ho hd => of_assign rfl) <|
   OblsR.nil
 intro done ρ σ A R w hdn hI
 replace h1 : R 1 = .int .i64 p1 := (hI.reg rfl).trans h1
 obtain ⟨b2_0, e_b2_0⟩ := hI.boxv hdn 0 rfl rfl
 have h2 : R 2 = (.pointer (some ⟨b2_0, 0, none⟩)) := (hI.opvR hdn 0 0 rfl rfl rfl rfl rfl).symm.trans e_b2_0
 replace hAA := hI.low' hAA hA0 (hO.ge (trivial))
 replace hF : Fr w0 w := hF.tr hI.ch (hO.ge (trivial))
 replace hO : IniOK [ob (.pointer (some ⟨b2_0, 0, none⟩)) (.box w0.heap.size 29 E_laws_Diagram p0)] A w := hI.left hdn [(0, ob (.pointer (some ⟨b2_0, 0, none⟩)) (.box w0.heap.size 29 E_laws_Diagram p0))] ⟨rfl, rfl, e_b2_0, rfl, rfl, trivial⟩
 replace hA := hI.avok
 clear hI
 refine HT.seq ?_
 obtain ⟨x2, q3, hr⟩ := cl_some hr
 refine HT.text (l := ⟨_, true, .raw (.pointer (some ⟨b2_0, 1, none⟩))⟩ :: ⟨_, true, .rep (eSl E_impl_DiagramNode) A p0.2⟩ :: ⟨_, true, .raw (.int .i64 p1)⟩ :: ⟨_, true, .raw (.int .i64 x2)⟩ :: ⟨_, true, .raw (.int .i64 x2)⟩ :: []) (tl := []) (by kernel_rfl) (by kernel_rfl) (by kernel_rfl) ?_ ?_
 ·exact
   Obls.p (fun R' w' hw hs hd => of_fieldAddr_raw ((hs 2 rfl).trans h2) ff_29_1 Tryd.sizeOf27 (by decide) rfl) <|
   Obls.p (fun R' w' hw hs hd => by have a0 : R' 5 = (.pointer (some ⟨b2_0, 1, none⟩)) := hd.g 0 rfl; exact (of_load_box ((hO.fr hw).ok 0 _ rfl).1 a0 fl_laws_Diagram_1 rfl Tryd.isAgg27 Tryd.sizeOf27)) <|
   Obls.p (fun R' w' hw hs hd => of_move ((hs 1 rfl).trans h1)) <|
   Obls.p (fun R' w' hw hs hd => by have a0 : Rep (eSl E_impl_DiagramNode) A w' (R' 6) p0.2 := hd.g 0 rfl; have a1 : R' 7 = .int .i64 p1 := hd.g 1 rfl; exact of_call Tryd.call36 (M_laws_szDiagramNodeS_ok (q3 rfl) (hA.fr hw.size) a0 a1)) <|
   Obls.p (fun R' w' hw hs hd => by have a0 : R' 8 = .int .i64 x2 := hd.g 0 rfl; exact of_assign a0) <|
   Obls.nil
 intro R w hw hs hF'
 have h1 : R 1 = .int .i64 x2 := hF' 4 _ _ rfl rfl rfl
 replace hO := hO.fr hw
 replace hO : IniOK [] A w := hO.sub [] trivial
 replace hA := hA.fr hw.size
 replace hF := hF.trans hw
 clear hs hF' hw
 refine seqR_nil ?_
 refine HT.seq ?_
 refine HT.seq ?_
 refine HT.text (l := ⟨_, true, .raw (.int .i64 x2)⟩ :: ⟨_, true, .raw (.bool (decide (x2 < (0 : Int))))⟩ :: []) (tl := []) (by kernel_rfl) (by kernel_rfl) (by kernel_rfl) ?_ ?_
 ·exact
   Obls.p (fun R' w' hw hs hd => of_move ((hs 1 rfl).trans h1)) <|
   Obls.p (fun R' w' hw hs hd => by have a0 : R' 9 = .int .i64 x2 := hd.g 0 rfl; exact of_lss a0 rfl) <|
   Obls.nil
 intro R w hw hs hF'
 replace h1 := (hs 1 rfl).trans h1
 have h10 : R 10 = .bool (decide (x2 < (0 : Int))) := hF' 1 _ _ rfl rfl rfl
 replace hO := hO.fr hw
 replace hA := hA.fr hw.size
 replace hF := hF.trans hw
 clear hs hF' hw
 refine seqR_nil ?_
 refine HT.cond (decide (x2 < (0 : Int))) h10 (fun c4 => ?_) (fun c4 => ?_)
 ·have hr := cnd_t c4 hr
  refine HT.seq ?_
  refine HT.text (l := ⟨_, true, .raw (.int .i64 (-1 : Int))⟩ :: []) (tl := []) (by kernel_rfl) (by kernel_rfl) (by kernel_rfl) ?_ ?_
  ·exact
    Obls.p (fun R' w' hw hs hd => of_assign rfl) <|
    Obls.nil
  intro R w hw hs hF'
  have h4 : R 4 = .int .i64 (-1 : Int) := hF' 0 _ _ rfl rfl rfl
  replace hO := hO.fr hw
  replace hA := hA.fr hw.size
  replace hF := hF.trans hw
  clear hs hF' hw
  refine seqR_nil ?_
  refine HT.ret ?_
  obtain rfl := Option.some.inj hr
  exact ⟨.inr rfl, [R 4], ⟨rfl, trivial⟩, h4, hF⟩
 ·have hr := cnd_f c4 hr
  refine HT.skip ?_
  refine HT.seq ?_
  refine HT.text (l := ⟨_, true, .raw (.int .i64 x2)⟩ :: ⟨_, true, .raw (.int .i64 x2)⟩ :: []) (tl := []) (by kernel_rfl) (by kernel_rfl) (by kernel_rfl) ?_ ?_
  ·exact
    Obls.p (fun R' w' hw hs hd => of_move ((hs 1 rfl).trans h1)) <|
    Obls.p (fun R' w' hw hs hd => by have a0 : R' 11 = .int .i64 x2 := hd.g 0 rfl; exact of_assign a0) <|
    Obls.nil
  intro R w hw hs hF'
  have h4 : R 4 = .int .i64 x2 := hF' 1 _ _ rfl rfl rfl
  replace hO := hO.fr hw
  replace hA := hA.fr hw.size
  replace hF := hF.trans hw
  clear hs hF' hw
  refine seqR_nil ?_
  refine HT.ret ?_
  obtain rfl := Option.some.inj hr
  exact ⟨.inr rfl, [R 4], ⟨rfl, trivial⟩, h4, hF⟩
def M_laws_toDiagramNode (fu : Nat) (p0 : T_impl_DiagramNode) : Option T_impl_DiagramNode :=
 some (p0.1, p0.2.1, p0.2.2.1, p0.2.2.2)
theorem M_laws_toDiagramNode_ok {fu : Nat} {A0 : Av} {p0 : T_impl_DiagramNode} {r : T_impl_DiagramNode} (hr : M_laws_toDiagramNode fu p0 = some r) {w : World} {v0 : Value} (hA : AvOK A0 w) (h0 : Rep E_impl_DiagramNode A0 w v0 p0) :
  Calls Tryd.prog 65 #[v0] w fun e w' => ∃ v, e = .returned v ∧ (Rep E_impl_DiagramNode A0 w' v r ∧ Fr w w') := by
 unfold M_laws_toDiagramNode at hr
 obtain ⟨w0, hw0⟩ : ∃ w0, w0 = w := ⟨_, rfl⟩
 have hF : Fr w0 w := hw0 ▸ Fr.refl _
 have hA0 : ∀ b o, A0 b o → b < w0.heap.size := fun b o h => hw0 ▸ hA b o h
 have hA00 : AvOK A0 w0 := hA0
 rw [show Fr w = Fr w0 from hw0 ▸ rfl]
 clear hw0
 obtain ⟨A, hAe⟩ : ∃ A, A = A0 := ⟨_, rfl⟩
 have hAA : ∀ b o, A0 b o → A b o := fun b o h => hAe ▸ h
 replace hA : AvOK A w := hAe ▸ hA
 have hO : IniOK [] A w := IniOK.nil
 refine calls_of_HT2 [.cell 2 63] Tryd.func65 Tryd.ntmps65 (by decide) rfl rfl (Nat.le_of_ble_eq_true rfl) ?_
 intro R hR
 have f_v0 : Rep E_impl_DiagramNode A w v0 p0 := hAe ▸ h0
 replace h0 : R 0 = v0 := hR 0 _ rfl
 clear hR hAe
 refine HT.seq ?_
 refine HT.textR [] (⟨_, true, [], some (.box w0.heap.size 101 E_impl_DiagramNode p0), true, fun A => .any⟩ :: ⟨_, true, [], some (.box w0.heap.size 63 E_impl_DiagramNode ((0 : Int), ((0 : Int), ((0 : Int), (0 : Int))))), true, fun A => .any⟩ :: []) (by kernel_rfl) (by kernel_rfl) (Wf.mk' (by kernel_rfl) (UAll.cons ust_any (UAll.cons ust_any (UAll.nil))) (by kernel_rfl) (by kernel_rfl)) hO hA ?_ ?_
 ·exact
   OblsR.cons (OblR.made _ rfl rfl rfl rfl fun A' R' w' ho hd => by have a0 : R' 0 = v0 := (ho.old 0 rfl).trans h0; have ra0 := (f_v0.stp ho.stp).eq a0; exact made_box ra0 (Nat.le_trans hF.size ho.ch.size)) <|
   OblsR.cons (OblR.made _ rfl rfl rfl rfl fun A' R' w' ho hd => by exact made_alloc Tryd.zeroValue63 (fun A w => rep_pr rep1_int (rep_pr rep1_int (rep_pr rep1_int rep1_int))) (Nat.le_trans hF.size ho.ch.size)) <|
   OblsR.nil
 intro done ρ σ A R w hdn hI
 obtain ⟨b1_0, e_b1_0⟩ := hI.boxv hdn 0 rfl rfl
 have h1 : R 1 = (.pointer (some ⟨b1_0, 0, none⟩)) := (hI.opvR hdn 0 0 rfl rfl rfl rfl rfl).symm.trans e_b1_0
 obtain ⟨b2_1, e_b2_1⟩ := hI.boxv hdn 1 rfl rfl
 have h2 : R 2 = (.pointer (some ⟨b2_1, 0, none⟩)) := (hI.opvR hdn 1 1 rfl rfl rfl rfl rfl).symm.trans e_b2_1
 replace hAA := hI.low' hAA hA0 (hO.ge (trivial))
 replace hF : Fr w0 w := hF.tr hI.ch (hO.ge (trivial))
 replace hO : IniOK [ob (.pointer (some ⟨b1_0, 0, none⟩)) (.box w0.heap.size 101 E_impl_DiagramNode p0), ob (.pointer (some ⟨b2_1, 0, none⟩)) (.box w0.heap.size 63 E_impl_DiagramNode ((0 : Int), ((0 : Int), ((0 : Int), (0 : Int)))))] A w := hI.left hdn [(0, ob (.pointer (some ⟨b1_0, 0, none⟩)) (.box w0.heap.size 101 E_impl_DiagramNode p0)), (1, ob (.pointer (some ⟨b2_1, 0, none⟩)) (.box w0.heap.size 63 E_impl_DiagramNode ((0 : Int), ((0 : Int), ((0 : Int), (0 : Int))))))] ⟨rfl, rfl, e_b1_0, rfl, rfl, ⟨rfl, rfl, e_b2_1, rfl, rfl, trivial⟩⟩
 replace hA := hI.avok
 clear hI
 refine HT.seq ?_
 refine HT.textR [ob (.pointer (some ⟨b1_0, 0, none⟩)) (.box w0.heap.size 101 E_impl_DiagramNode p0), ob (.pointer (some ⟨b2_1, 0, none⟩)) (.box w0.heap.size 63 E_impl_DiagramNode ((0 : Int), ((0 : Int), ((0 : Int), (0 : Int)))))] (⟨_, true, [], some (.box w0.heap.size 63 E_impl_DiagramNode ((0 : Int), ((0 : Int), ((0 : Int), (0 : Int))))), true, fun A => .any⟩ :: []) (by kernel_rfl) (by kernel_rfl) (Wf.mk' (by kernel_rfl) (UAll.cons ust_any (UAll.nil)) (by kernel_rfl) (by kernel_rfl)) hO hA ?_ ?_
 ·exact
   OblsR.cons (OblR.made _ rfl rfl rfl rfl fun A' R' w' ho hd => by exact made_alloc Tryd.zeroValue63 (fun A w => rep_pr rep1_int (rep_pr rep1_int (rep_pr rep1_int rep1_int))) (Nat.le_trans hF.size ho.ch.size)) <|
   OblsR.nil
 intro done ρ σ A R w hdn hI
 replace h1 : R 1 = (.pointer (some ⟨b1_0, 0, none⟩)) := (hI.reg rfl).trans h1
 replace h2 : R 2 = (.pointer (some ⟨b2_1, 0, none⟩)) := (hI.reg rfl).trans h2
 have z3 := hI.inivR 0 rfl
 have z4 := hI.inivR 1 rfl
 obtain ⟨b3_4, e_b3_4⟩ := hI.boxv hdn 2 rfl rfl
 have h3 : R 3 = (.pointer (some ⟨b3_4, 0, none⟩)) := (hI.opvR hdn 2 0 rfl rfl rfl rfl rfl).symm.trans e_b3_4
 replace hAA := hI.low' hAA hA0 (hO.ge (⟨rfl, ⟨rfl, trivial⟩⟩))
 replace hF : Fr w0 w := hF.tr hI.ch (hO.ge (⟨rfl, ⟨rfl, trivial⟩⟩))
 replace hO : IniOK [ob (.pointer (some ⟨b1_0, 0, none⟩)) (.box w0.heap.size 101 E_impl_DiagramNode p0), ob (.pointer (some ⟨b2_1, 0, none⟩)) (.box w0.heap.size 63 E_impl_DiagramNode ((0 : Int), ((0 : Int), ((0 : Int), (0 : Int))))), ob (.pointer (some ⟨b3_4, 0, none⟩)) (.box w0.heap.size 63 E_impl_DiagramNode ((0 : Int), ((0 : Int), ((0 : Int), (0 : Int)))))] A w := hI.left hdn [(0, ob (.pointer (some ⟨b1_0, 0, none⟩)) (.box w0.heap.size 101 E_impl_DiagramNode p0)), (1, ob (.pointer (some ⟨b2_1, 0, none⟩)) (.box w0.heap.size 63 E_impl_DiagramNode ((0 : Int), ((0 : Int), ((0 : Int), (0 : Int)))))), (2, ob (.pointer (some ⟨b3_4, 0, none⟩)) (.box w0.heap.size 63 E_impl_DiagramNode ((0 : Int), ((0 : Int), ((0 : Int), (0 : Int))))))] ⟨rfl, rfl, z3, rfl, rfl, ⟨rfl, rfl, z4, rfl, rfl, ⟨rfl, rfl, e_b3_4, rfl, rfl, trivial⟩⟩⟩
 replace hA := hI.avok
 clear hI
 refine HT.seq ?_
 refine HT.textR [ob (.pointer (some ⟨b1_0, 0, none⟩)) (.box w0.heap.size 101 E_impl_DiagramNode p0), ob (.pointer (some ⟨b2_1, 0, none⟩)) (.box w0.heap.size 63 E_impl_DiagramNode ((0 : Int), ((0 : Int), ((0 : Int), (0 : Int))))), ob (.pointer (some ⟨b3_4, 0, none⟩)) (.box w0.heap.size 63 E_impl_DiagramNode ((0 : Int), ((0 : Int), ((0 : Int), (0 : Int)))))] (⟨_, true, [], none, true, fun A => .raw (.pointer (some ⟨b1_0, 0, none⟩))⟩ :: ⟨_, true, [], none, true, fun A => .raw (.int .i64 p0.1)⟩ :: ⟨_, true, [], none, true, fun A => .raw (.pointer (some ⟨b3_4, 0, none⟩))⟩ :: ⟨_, true, [2], some (.box w0.heap.size 63 E_impl_DiagramNode (p0.1, (0 : Int), (0 : Int), (0 : Int))), false, fun A => .any⟩ :: []) (by kernel_rfl) (by kernel_rfl) (Wf.mk' (by kernel_rfl) (UAll.cons ust_raw (UAll.cons ust_raw (UAll.cons ust_raw (UAll.cons ust_any (UAll.nil))))) (by kernel_rfl) (by kernel_rfl)) hO hA ?_ ?_
 ·exact
   OblsR.p (fun A' R' w' ho hd => of_fieldAddr_raw ((ho.old 1 rfl).trans h1) ff_101_0 Tryd.sizeOf3 (by decide) rfl) <|
   OblsR.p (fun A' R' w' ho hd => by have a0 : R' 4 = (.pointer (some ⟨b1_0, 0, none⟩)) := hd.g 0 rfl; exact OpF.int (of_load_box (ho.rd 0 _ rfl rfl) a0 fl_impl_DiagramNode_0 rfl Tryd.isAgg3 Tryd.sizeOf3)) <|
   OblsR.p (fun A' R' w' ho hd => of_fieldAddr_raw ((ho.old 3 rfl).trans h3) ff_63_0 Tryd.sizeOf3 (by decide) rfl) <|
   OblsR.cons (OblR.took 2 _ _ rfl rfl rfl rfl rfl fun A' R' w' ho hd u hok hav hin hop hds => by have a0 : R' 6 = (.pointer (some ⟨b3_4, 0, none⟩)) := hd.g 0 rfl; have a1 : R' 5 = .int .i64 p0.1 := hd.g 1 rfl; exact took_store (rep_int.eq a1) a0 (hin _ rfl) hok hav fs_impl_DiagramNode_0 Tryd.sizeOf3 rfl) <|
   OblsR.nil
 intro done ρ σ A R w hdn hI
 replace h1 : R 1 = (.pointer (some ⟨b1_0, 0, none⟩)) := (hI.reg rfl).trans h1
 replace h2 : R 2 = (.pointer (some ⟨b2_1, 0, none⟩)) := (hI.reg rfl).trans h2
 replace h3 : R 3 = (.pointer (some ⟨b3_4, 0, none⟩)) := (hI.reg rfl).trans h3
 have z6 := hI.inivR 0 rfl
 have z7 := hI.inivR 1 rfl
 have z8 := hI.inivR 2 rfl
 have z9 := (hI.opnR hdn 6 3 rfl rfl rfl rfl rfl).trans z8
 replace hAA := hI.low' hAA hA0 (hO.ge (⟨rfl, ⟨rfl, ⟨rfl, trivial⟩⟩⟩))
 replace hF : Fr w0 w := hF.tr hI.ch (hO.ge (⟨rfl, ⟨rfl, ⟨rfl, trivial⟩⟩⟩))
 replace hO : IniOK [ob (.pointer (some ⟨b1_0, 0, none⟩)) (.box w0.heap.size 101 E_impl_DiagramNode p0), ob (.pointer (some ⟨b2_1, 0, none⟩)) (.box w0.heap.size 63 E_impl_DiagramNode ((0 : Int), ((0 : Int), ((0 : Int), (0 : Int))))), ob (.pointer (some ⟨b3_4, 0, none⟩)) (.box w0.heap.size 63 E_impl_DiagramNode (p0.1, (0 : Int), (0 : Int), (0 : Int)))] A w := hI.left hdn [(0, ob (.pointer (some ⟨b1_0, 0, none⟩)) (.box w0.heap.size 101 E_impl_DiagramNode p0)), (1, ob (.pointer (some ⟨b2_1, 0, none⟩)) (.box w0.heap.size 63 E_impl_DiagramNode ((0 : Int), ((0 : Int), ((0 : Int), (0 : Int)))))), (6, ob (.pointer (some ⟨b3_4, 0, none⟩)) (.box w0.heap.size 63 E_impl_DiagramNode (p0.1, (0 : Int), (0 : Int), (0 : Int))))] ⟨rfl, rfl, z6, rfl, rfl, ⟨rfl, rfl, z7, rfl, rfl, ⟨rfl, rfl, z9, rfl, rfl, trivial⟩⟩⟩
 replace hA := hI.avok
 clear hI
 refine HT.seq ?_
 refine HT.textR [ob (.pointer (some ⟨b1_0, 0, none⟩)) (.box w0.heap.size 101 E_impl_DiagramNode p0), ob (.pointer (some ⟨b2_1, 0, none⟩)) (.box w0.heap.size 63 E_impl_DiagramNode ((0 : Int), ((0 : Int), ((0 : Int), (0 : Int))))), ob (.pointer (some ⟨b3_4, 0, none⟩)) (.box w0.heap.size 63 E_impl_DiagramNode (p0.1, (0 : Int), (0 : Int), (0 : Int)))] (⟨_, true, [], none, true, fun A => .raw (.pointer (some ⟨b1_0, 1, none⟩))⟩ :: ⟨_, true, [], none, true, fun A => .raw (.int .i64 p0.2.1)⟩ :: ⟨_, true, [], none, true, fun A => .raw (.pointer (some ⟨b3_4, 1, none⟩))⟩ :: ⟨_, true, [2], some (.box w0.heap.size 63 E_impl_DiagramNode (p0.1, p0.2.1, (0 : Int), (0 : Int))), false, fun A => .any⟩ :: []) (by kernel_rfl) (by kernel_rfl) (Wf.mk' (by kernel_rfl) (UAll.cons ust_raw (UAll.cons ust_raw (UAll.cons ust_raw (UAll.cons ust_any (UAll.nil))))) (by kernel_rfl) (by kernel_rfl)) hO hA ?_ ?_
 ·exact
   OblsR.p (fun A' R' w' ho hd => of_fieldAddr_raw ((ho.old 1 rfl).trans h1) ff_101_1 Tryd.sizeOf3 (by decide) rfl) <|
   OblsR.p (fun A' R' w' ho hd => by have a0 : R' 7 = (.pointer (some ⟨b1_0, 1, none⟩)) := hd.g 0 rfl; exact OpF.int (of_load_box (ho.rd 0 _ rfl rfl) a0 fl_impl_DiagramNode_1 rfl Tryd.isAgg3 Tryd.sizeOf3)) <|
   OblsR.p (fun A' R' w' ho hd => of_fieldAddr_raw ((ho.old 3 rfl).trans h3) ff_63_1 Tryd.sizeOf3 (by decide) rfl) <|
   OblsR.cons (OblR.took 2 _ _ rfl rfl rfl rfl rfl fun A' R' w' ho hd u hok hav hin hop hds => by have a0 : R' 9 = (.pointer (some ⟨b3_4, 1, none⟩)) := hd.g 0 rfl; have a1 : R' 8 = .int .i64 p0.2.1 := hd.g 1 rfl; exact took_store (rep_int.eq a1) a0 (hin _ rfl) hok hav fs_impl_DiagramNode_1 Tryd.sizeOf3 rfl) <|
   OblsR.nil
 intro done ρ σ A R w hdn hI
 replace h1 : R 1 = (.pointer (some ⟨b1_0, 0, none⟩)) := (hI.reg rfl).trans h1
 replace h2 : R 2 = (.pointer (some ⟨b2_1, 0, none⟩)) := (hI.reg rfl).trans h2
 replace h3 : R 3 = (.pointer (some ⟨b3_4, 0, none⟩)) := (hI.reg rfl).trans h3
 have z10 := hI.inivR 0 rfl
 have z11 := hI.inivR 1 rfl
 have z12 := hI.inivR 2 rfl
 have z13 := (hI.opnR hdn 6 3 rfl rfl rfl rfl rfl).trans z12
 replace hAA := hI.low' hAA hA0 (hO.ge (⟨rfl, ⟨rfl, ⟨rfl, trivial⟩⟩⟩))
 replace hF : Fr w0 w := hF.tr hI.ch (hO.ge (⟨rfl, ⟨rfl, ⟨rfl, trivial⟩⟩⟩))
 replace hO : IniOK [ob (.pointer (some ⟨b1_0, 0, none⟩)) (.box w0.heap.size 101 E_impl_DiagramNode p0), ob (.pointer (some ⟨b2_1, 0, none⟩)) (.box w0.heap.size 63 E_impl_DiagramNode ((0 : Int), ((0 : Int), ((0 : Int), (0 : Int))))), ob (.pointer (some ⟨b3_4, 0, none⟩)) (.box w0.heap.size 63 E_impl_DiagramNode (p0.1, p0.2.1, (0 : Int), (0 : Int)))] A w := hI.left hdn [(0, ob (.pointer (some ⟨b1_0, 0, none⟩)) (.box w0.heap.size 101 E_impl_DiagramNode p0)), (1, ob (.pointer (some ⟨b2_1, 0, none⟩)) (.box w0.heap.size 63 E_impl_DiagramNode ((0 : Int), ((0 : Int), ((0 : Int), (0 : Int)))))), (6, ob (.pointer (some ⟨b3_4, 0, none⟩)) (.box w0.heap.size 63 E_impl_DiagramNode (p0.1, p0.2.1, (0 : Int), (0 : Int))))] ⟨rfl, rfl, z10, rfl, rfl, ⟨rfl, rfl, z11, rfl, rfl, ⟨rfl, rfl, z13, rfl, rfl, trivial⟩⟩⟩
 replace hA := hI.avok
 clear hI
 refine HT.seq ?_
 refine HT.textR [ob (.pointer (some ⟨b1_0, 0, none⟩)) (.box w0.heap.size 101 E_impl_DiagramNode p0), ob (.pointer (some ⟨b2_1, 0, none⟩)) (.box w0.heap.size 63 E_impl_DiagramNode ((0 : Int), ((0 : Int), ((0 : Int), (0 : Int))))), ob (.pointer (some ⟨b3_4, 0, none⟩)) (.box w0.heap.size 63 E_impl_DiagramNode (p0.1, p0.2.1, (0 : Int), (0 : Int)))] (⟨_, true, [], none, true, fun A => .raw (.pointer (some ⟨b1_0, 2, none⟩))⟩ :: ⟨_, true, [], none, true, fun A => .raw (.int .i64 p0.2.2.1)⟩ :: ⟨_, true, [], none, true, fun A => .raw (.pointer (some ⟨b3_4, 2, none⟩))⟩ :: ⟨_, true, [2], some (.box w0.heap.size 63 E_impl_DiagramNode (p0.1, p0.2.1, p0.2.2.1, (0 : Int))), false, fun A => .any⟩ :: []) (by kernel_rfl) (by kernel_rfl) (Wf.mk' (by kernel_rfl) (UAll.cons ust_raw (UAll.cons ust_raw (UAll.cons ust_raw (UAll.cons ust_any (UAll.nil))))) (by kernel_rfl) (by kernel_rfl)) hO hA ?_ ?_
 ·exact
   OblsR.p (fun A' R' w' ho hd => of_fieldAddr_raw ((ho.old 1 rfl).trans h1) ff_101_2 Tryd.sizeOf3 (by decide) rfl) <|
   OblsR.p (fun A' R' w' ho hd => by have a0 : R' 10 = (.pointer (some ⟨b1_0, 2, none⟩)) := hd.g 0 rfl; exact OpF.int (of_load_box (ho.rd 0 _ rfl rfl) a0 fl_impl_DiagramNode_2 rfl Tryd.isAgg3 Tryd.sizeOf3)) <|
   OblsR.p (fun A' R' w' ho hd => of_fieldAddr_raw ((ho.old 3 rfl).trans h3) ff_63_2 Tryd.sizeOf3 (by decide) rfl) <|
   OblsR.cons (OblR.took 2 _ _ rfl rfl rfl rfl rfl fun A' R' w' ho hd u hok hav hin hop hds => by have a0 : R' 12 = (.pointer (some ⟨b3_4, 2, none⟩)) := hd.g 0 rfl; have a1 : R' 11 = .int .i64 p0.2.2.1 := hd.g 1 rfl; exact took_store (rep_int.eq a1) a0 (hin _ rfl) hok hav fs_impl_DiagramNode_2 Tryd.sizeOf3 rfl) <|
   OblsR.nil
 intro done ρ σ A R w hdn hI
 replace h1 : R 1 = (.pointer (some ⟨b1_0, 0, none⟩)) := (hI.reg rfl).trans h1
 replace h2 : R 2 = (.pointer (some ⟨b2_1, 0, none⟩)) := (hI.reg rfl).trans h2
 replace h3 : R 3 = (.pointer (some ⟨b3_4, 0, none⟩)) := (hI.reg rfl).trans h3
 have z14 := hI.inivR 0 rfl
 have z15 := hI.inivR 1 rfl
 have z16 := hI.inivR 2 rfl
 have z17 := (hI.opnR hdn 6 3 rfl rfl rfl rfl rfl).trans z16
 replace hAA := hI.low' hAA hA0 (hO.ge (⟨rfl, ⟨rfl, ⟨rfl, trivial⟩⟩⟩))
 replace hF : Fr w0 w := hF.tr hI.ch (hO.ge (⟨rfl, ⟨rfl, ⟨rfl, trivial⟩⟩⟩))
 replace hO : IniOK [ob (.pointer (some ⟨b1_0, 0, none⟩)) (.box w0.heap.size 101 E_impl_DiagramNode p0), ob (.pointer (some ⟨b2_1, 0, none⟩)) (.box w0.heap.size 63 E_impl_DiagramNode ((0 : Int), ((0 : Int), ((0 : Int), (0 : Int))))), ob (.pointer (some ⟨b3_4, 0, none⟩)) (.box w0.heap.size 63 E_impl_DiagramNode (p0.1, p0.2.1, p0.2.2.1, (0 : Int)))] A w := hI.left hdn [(0, ob (.pointer (some ⟨b1_0, 0, none⟩)) (.box w0.heap.size 101 E_impl_DiagramNode p0)), (1, ob (.pointer (some ⟨b2_1, 0, none⟩)) (.box w0.heap.size 63 E_impl_DiagramNode ((0 : Int), ((0 : Int), ((0 : Int), (0 : Int)))))), (6, ob (.pointer (some ⟨b3_4, 0, none⟩)) (.box w0.heap.size 63 E_impl_DiagramNode (p0.1, p0.2.1, p0.2.2.1, (0 : Int))))] ⟨rfl, rfl, z14, rfl, rfl, ⟨rfl, rfl, z15, rfl, rfl, ⟨rfl, rfl, z17, rfl, rfl, trivial⟩⟩⟩
 replace hA := hI.avok
 clear hI
 refine HT.seq ?_
 refine HT.textR [ob (.pointer (some ⟨b1_0, 0, none⟩)) (.box w0.heap.size 101 E_impl_DiagramNode p0), ob (.pointer (some ⟨b2_1, 0, none⟩)) (.box w0.heap.size 63 E_impl_DiagramNode ((0 : Int), ((0 : Int), ((0 : Int), (0 : Int))))), ob (.pointer (some ⟨b3_4, 0, none⟩)) (.box w0.heap.size 63 E_impl_DiagramNode (p0.1, p0.2.1, p0.2.2.1, (0 : Int)))] (⟨_, true, [], none, true, fun A => .raw (.pointer (some ⟨b1_0, 3, none⟩))⟩ :: ⟨_, true, [], none, true, fun A => .raw (.int .i64 p0.2.2.2)⟩ :: ⟨_, true, [], none, true, fun A => .raw (.pointer (some ⟨b3_4, 3, none⟩))⟩ :: ⟨_, true, [2], some (.box w0.heap.size 63 E_impl_DiagramNode (p0.1, p0.2.1, p0.2.2.1, p0.2.2.2)), false, fun A => .any⟩ :: []) (by kernel_rfl) (by kernel_rfl) (Wf.mk' (by kernel_rfl) (UAll.cons ust_raw (UAll.cons ust_raw (UAll.cons ust_raw (UAll.cons ust_any (UAll.nil))))) (by kernel_rfl) (by kernel_rfl)) hO hA ?_ ?_
 ·exact
   OblsR.p (fun A' R' w' ho hd => of_fieldAddr_raw ((ho.old 1 rfl).trans h1) ff_101_3 Tryd.sizeOf3 (by decide) rfl) <|
   OblsR.p (fun A' R' w' ho hd => by have a0 : R' 13 = (.pointer (some ⟨b1_0, 3, none⟩)) := hd.g 0 rfl; exact OpF.int (of_load_box (ho.rd 0 _ rfl rfl) a0 fl_impl_DiagramNode_3 rfl Tryd.isAgg3 Tryd.sizeOf3)) <|
   OblsR.p (fun A' R' w' ho hd => of_fieldAddr_raw ((ho.old 3 rfl).trans h3) ff_63_3 Tryd.sizeOf3 (by decide) rfl) <|
   OblsR.cons (OblR.took 2 _ _ rfl rfl rfl rfl rfl fun A' R' w' ho hd u hok hav hin hop hds => by have a0 : R' 15 = (.pointer (some ⟨b3_4, 3, none⟩)) := hd.g 0 rfl; have a1 : R' 14 = .int .i64 p0.2.2.2 := hd.g 1 rfl; exact took_store (rep_int.eq a1) a0 (hin _ rfl) hok hav fs_impl_DiagramNode_3 Tryd.sizeOf3 rfl) <|
   OblsR.nil
 intro done ρ σ A R w hdn hI
 replace h2 : R 2 = (.pointer (some ⟨b2_1, 0, none⟩)) := (hI.reg rfl).trans h2
 replace h3 : R 3 = (.pointer (some ⟨b3_4, 0, none⟩)) := (hI.reg rfl).trans h3
 have z18 := hI.inivR 0 rfl
 have z19 := hI.inivR 1 rfl
 have z20 := hI.inivR 2 rfl
 have z21 := (hI.opnR hdn 6 3 rfl rfl rfl rfl rfl).trans z20
 replace hAA := hI.low' hAA hA0 (hO.ge (⟨rfl, ⟨rfl, ⟨rfl, trivial⟩⟩⟩))
 replace hF : Fr w0 w := hF.tr hI.ch (hO.ge (⟨rfl, ⟨rfl, ⟨rfl, trivial⟩⟩⟩))
 replace hO : IniOK [ob (.pointer (some ⟨b2_1, 0, none⟩)) (.box w0.heap.size 63 E_impl_DiagramNode ((0 : Int), ((0 : Int), ((0 : Int), (0 : Int))))), ob (.pointer (some ⟨b3_4, 0, none⟩)) (.box w0.heap.size 63 E_impl_DiagramNode (p0.1, p0.2.1, p0.2.2.1, p0.2.2.2))] A w := hI.left hdn [(1, ob (.pointer (some ⟨b2_1, 0, none⟩)) (.box w0.heap.size 63 E_impl_DiagramNode ((0 : Int), ((0 : Int), ((0 : Int), (0 : Int)))))), (6, ob (.pointer (some ⟨b3_4, 0, none⟩)) (.box w0.heap.size 63 E_impl_DiagramNode (p0.1, p0.2.1, p0.2.2.1, p0.2.2.2)))] ⟨rfl, rfl, z19, rfl, rfl, ⟨rfl, rfl, z21, rfl, rfl, trivial⟩⟩
 replace hA := hI.avok
 clear hI
 refine HT.seq ?_
 refine HT.textR [ob (.pointer (some ⟨b2_1, 0, none⟩)) (.box w0.heap.size 63 E_impl_DiagramNode ((0 : Int), ((0 : Int), ((0 : Int), (0 : Int))))), ob (.pointer (some ⟨b3_4, 0, none⟩)) (.box w0.heap.size 63 E_impl_DiagramNode (p0.1, p0.2.1, p0.2.2.1, p0.2.2.2))] (⟨_, true, [], none, true, fun A => .rep E_impl_DiagramNode A (p0.1, p0.2.1, p0.2.2.1, p0.2.2.2)⟩ :: ⟨_, true, [0], some (.box w0.heap.size 63 E_impl_DiagramNode (p0.1, p0.2.1, p0.2.2.1, p0.2.2.2)), false, fun A => .any⟩ :: []) (by kernel_rfl) (by kernel_rfl) (Wf.mk' (by kernel_rfl) (UAll.cons ust_rep (UAll.cons ust_any (UAll.nil))) (by kernel_rfl) (by kernel_rfl)) hO hA ?_ ?_
 ·exact
   OblsR.p (fun A' R' w' ho hd => (of_load_box (ho.rd 1 _ rfl rfl) ((ho.old 3 rfl).trans h3) (Fld.id _) rfl Tryd.isAgg63 Tryd.sizeOf63)) <|
   OblsR.cons (OblR.took 0 _ _ rfl rfl rfl rfl rfl fun A' R' w' ho hd u hok hav hin hop hds => by have a0 : R' 2 = (.pointer (some ⟨b2_1, 0, none⟩)) := (ho.old 2 rfl).trans h2; have a1 : Rep E_impl_DiagramNode A' w' (R' 16) (p0.1, p0.2.1, p0.2.2.1, p0.2.2.2) := hd.g 0 rfl; exact took_store a1 a0 (hin _ rfl) hok hav (FldS.id _) Tryd.sizeOf63 rfl) <|
   OblsR.nil
 intro done ρ σ A R w hdn hI
 replace h2 : R 2 = (.pointer (some ⟨b2_1, 0, none⟩)) := (hI.reg rfl).trans h2
 have z22 := hI.inivR 0 rfl
 have z23 := (hI.opnR hdn 3 1 rfl rfl rfl rfl rfl).trans z22
 have z24 := hI.inivR 1 rfl
 replace hAA := hI.low' hAA hA0 (hO.ge (⟨rfl, ⟨rfl, trivial⟩⟩))
 replace hF : Fr w0 w := hF.tr hI.ch (hO.ge (⟨rfl, ⟨rfl, trivial⟩⟩))
 replace hO : IniOK [ob (.pointer (some ⟨b2_1, 0, none⟩)) (.box w0.heap.size 63 E_impl_DiagramNode (p0.1, p0.2.1, p0.2.2.1, p0.2.2.2))] A w := hI.left hdn [(3, ob (.pointer (some ⟨b2_1, 0, none⟩)) (.box w0.heap.size 63 E_impl_DiagramNode (p0.1, p0.2.1, p0.2.2.1, p0.2.2.2)))] ⟨rfl, rfl, z23, rfl, rfl, trivial⟩
 replace hA := hI.avok
 clear hI
 refine HT.ret ?_
 obtain rfl := Option.some.inj hr
 obtain ⟨v_2, e_2, p_2⟩ := res_cell (hO.ok 0 _ rfl).1 h2 Tryd.isAgg63 Tryd.sizeOf63 hAA
 exact ⟨.inr rfl, [v_2], ⟨e_2, trivial⟩, p_2, hF⟩
def M_laws_toDiagramNodeS_L0 (fu : Nat) (p0 : List T_impl_DiagramNode) : Nat → Int → (List T_impl_DiagramNode) → Option (List T_impl_DiagramNode)
 | 0, _, _ => none
 | k + 1, y6, y7 =>
  bif (decide (y6 < (p0.length : Int))) then (
   ck (inR y6 p0.length) <|
   cl true (M_laws_toDiagramNode fu (gtD p0 y6)) fun x10 =>
   ck (inR y6 y7.length) <|
   ck (i64B (y6 + (1 : Int))) <|
   M_laws_toDiagramNodeS_L0 fu p0 k (y6 + (1 : Int)) (y7.set y6.toNat x10)
  ) else (
   some y7
  )
def M_laws_toDiagramNodeS (fu : Nat) (p0 : List T_impl_DiagramNode) : Option (List T_impl_DiagramNode) :=
 ck (mkOK (p0.length : Int)) <|
 cl true (M_laws_toDiagramNodeS_L0 fu p0 fu (0 : Int) (List.replicate (p0.length : Int).toNat ((0 : Int), ((0 : Int), ((0 : Int), (0 : Int)))))) fun s5 =>
 some s5
theorem M_laws_toDiagramNodeS_ok {fu : Nat} {A0 : Av} {p0 : List T_impl_DiagramNode} {r : List T_impl_DiagramNode} (hr : M_laws_toDiagramNodeS fu p0 = some r) {w : World} {v0 : Value} (hA : AvOK A0 w) (h0 : Rep (eSl E_impl_DiagramNode) A0 w v0 p0) :
  Calls Tryd.prog 38 #[v0] w fun e w' => ∃ v, e = .returned v ∧ ((Res.vec w.heap.size 63 E_impl_DiagramNode r).ok (addA A0 v) v w' ∧ Fr w w') := by
 unfold M_laws_toDiagramNodeS at hr
 obtain ⟨w0, hw0⟩ : ∃ w0, w0 = w := ⟨_, rfl⟩
 have hF : Fr w0 w := hw0 ▸ Fr.refl _
 have hA0 : ∀ b o, A0 b o → b < w0.heap.size := fun b o h => hw0 ▸ hA b o h
 have hA00 : AvOK A0 w0 := hA0
 rw [show w.heap.size = w0.heap.size from hw0 ▸ rfl]
 rw [show Fr w = Fr w0 from hw0 ▸ rfl]
 clear hw0
 obtain ⟨A, hAe⟩ : ∃ A, A = A0 := ⟨_, rfl⟩
 have hAA : ∀ b o, A0 b o → A b o := fun b o h => hAe ▸ h
 replace hA : AvOK A w := hAe ▸ hA
 have hO : IniOK [] A w := IniOK.nil
 refine calls_of_HT2 [.tmp 2] Tryd.func38 Tryd.ntmps38 (by decide) rfl rfl (Nat.le_of_ble_eq_true rfl) ?_
 intro R hR
 have f_v0 : Rep (eSl E_impl_DiagramNode) A w v0 p0 := hAe ▸ h0
 replace h0 : R 0 = v0 := hR 0 _ rfl
 clear hR hAe
 refine HT.seq ?_
 refine HT.text (l := ⟨_, true, .any⟩ :: []) (tl := []) (by kernel_rfl) (by kernel_rfl) (by kernel_rfl) ?_ ?_
 ·exact
   Obls.p (fun R' w' hw hs hd => of_assign trivial) <|
   Obls.nil
 intro R w hw hs hF'
 replace h0 := (hs 0 rfl).trans h0
 replace f_v0 := f_v0.fr hw
 replace hO := hO.fr hw
 replace hA := hA.fr hw.size
 replace hF := hF.trans hw
 clear hs hF' hw
 refine seqR_nil ?_
 refine HT.seq ?_
 obtain ⟨e1, hr⟩ := ck_some hr
 refine HT.textR [] (⟨_, true, [], none, true, fun A => .raw v0⟩ :: ⟨_, true, [], none, true, fun A => .raw (.int .i64 (p0.length : Int))⟩ :: ⟨_, true, [], some (.vec w0.heap.size 63 E_impl_DiagramNode (List.replicate (p0.length : Int).toNat ((0 : Int), ((0 : Int), ((0 : Int), (0 : Int)))))), true, fun A => .any⟩ :: ⟨_, true, [2], some (.vec w0.heap.size 63 E_impl_DiagramNode (List.replicate (p0.length : Int).toNat ((0 : Int), ((0 : Int), ((0 : Int), (0 : Int)))))), true, fun A => .any⟩ :: []) (by kernel_rfl) (by kernel_rfl) (Wf.mk' (by kernel_rfl) (UAll.cons ust_raw (UAll.cons ust_raw (UAll.cons ust_any (UAll.cons ust_any (UAll.nil))))) (by kernel_rfl) (by kernel_rfl)) hO hA ?_ ?_
 ·exact
   OblsR.p (fun A' R' w' ho hd => of_move ((ho.old 0 rfl).trans h0)) <|
   OblsR.p (fun A' R' w' ho hd => by have a0 : R' 5 = v0 := hd.g 0 rfl; have ra0 := (f_v0.stp ho.stp).eq a0; exact of_len_sl (aT := #[]) ra0 Tryd.underlying27) <|
   OblsR.cons (OblR.made _ rfl rfl rfl rfl fun A' R' w' ho hd => by have a0 : R' 6 = .int .i64 (p0.length : Int) := hd.g 0 rfl; have a1 : R' 6 = .int .i64 (p0.length : Int) := hd.g 0 rfl; exact made_make a0 a1 e1 Tryd.underlying32 el_63 Tryd.zeroValue63 (fun A w => rep_pr rep1_int (rep_pr rep1_int (rep_pr rep1_int rep1_int))) (Nat.le_trans hF.size ho.ch.size)) <|
   OblsR.cons (OblR.took 2 _ _ rfl rfl rfl rfl rfl fun A' R' w' ho hd u hok hav hin hop hds => by exact took_assign (hop _ _ rfl rfl rfl rfl).symm hok hav) <|
   OblsR.nil
 intro done ρ σ A R w hdn hI
 replace h0 : R 0 = v0 := (hI.reg rfl).trans h0
 obtain ⟨u2, e_u2⟩ : ∃ u, ρ 3 = u := ⟨_, rfl⟩
 have h3 : R 3 = u2 := (hI.opvR hdn 3 3 rfl rfl rfl rfl rfl).symm.trans e_u2
 replace f_v0 := f_v0.stp hI.stp
 replace hAA := hI.low' hAA hA0 (hO.ge (trivial))
 replace hF : Fr w0 w := hF.tr hI.ch (hO.ge (trivial))
 replace hO : IniOK [ob u2 (.vec w0.heap.size 63 E_impl_DiagramNode (List.replicate (p0.length : Int).toNat ((0 : Int), ((0 : Int), ((0 : Int), (0 : Int))))))] A w := hI.left hdn [(3, ob u2 (.vec w0.heap.size 63 E_impl_DiagramNode (List.replicate (p0.length : Int).toNat ((0 : Int), ((0 : Int), ((0 : Int), (0 : Int)))))))] ⟨rfl, rfl, e_u2, rfl, rfl, trivial⟩
 replace hA := hI.avok
 clear hI
 refine HT.seq ?_
 refine HT.seq ?_
 refine HT.text (l := ⟨_, true, .raw (.int .i64 (0 : Int))⟩ :: []) (tl := []) (by kernel_rfl) (by kernel_rfl) (by kernel_rfl) ?_ ?_
 ·exact
   Obls.p (fun R' w' hw hs hd => of_assign rfl) <|
   Obls.nil
 intro R w hw hs hF'
 replace h0 := (hs 0 rfl).trans h0
 replace h3 := (hs 3 rfl).trans h3
 have h4 : R 4 = .int .i64 (0 : Int) := hF' 0 _ _ rfl rfl rfl
 replace f_v0 := f_v0.fr hw
 replace hO := hO.fr hw
 replace hA := hA.fr hw.size
 replace hF := hF.trans hw
 clear hs hF' hw
 refine seqR_nil ?_
 obtain ⟨rl3, q4, hr⟩ := cl_some hr
 replace q4 := q4 rfl
 refine HT.cut0 (fun R w => ∃ A : Av, ∃ (s5 : (List T_impl_DiagramNode)), rl3 = s5 ∧ AvOK A w ∧ Fr w0 w ∧ (∀ b o, A0 b o → A b o) ∧ IniOK [ob u2 (.vec w0.heap.size 63 E_impl_DiagramNode s5)] A w ∧ R 3 = u2) ?_ ?_
 ·refine HT.block ?_
  refine HT.loop (fun k R w => ∃ A : Av, ∃ (y6 : Int) (y7 : List T_impl_DiagramNode), M_laws_toDiagramNodeS_L0 fu p0 k y6 y7 = some rl3 ∧ AvOK A w ∧ Fr w0 w ∧ (∀ b o, A0 b o → A b o) ∧ IniOK [ob u2 (.vec w0.heap.size 63 E_impl_DiagramNode y7)] A w ∧ R 0 = v0 ∧ R 3 = u2 ∧ R 4 = .int .i64 y6 ∧ Rep (eSl E_impl_DiagramNode) A w v0 p0) fu ⟨_, _, _, q4, hA, hF, hAA, hO, h0, h3, h4, f_v0⟩ ?_
  have hr0 := hr; clear hr q4
  rintro k R w ⟨A, y6, y7, hr, hA, hF, hAA, hO, h0, h3, h4, f_v0⟩
  rcases k with _ | k
  ·cases (show none = some _ from hr)
  rw [M_laws_toDiagramNodeS_L0] at hr
  refine HT.seq ?_
  refine HT.seq ?_
  refine HT.text (l := ⟨_, true, .raw (.int .i64 y6)⟩ :: ⟨_, true, .raw v0⟩ :: ⟨_, true, .raw (.int .i64 (p0.length : Int))⟩ :: ⟨_, true, .raw (.bool (decide (y6 < (p0.length : Int))))⟩ :: []) (tl := []) (by kernel_rfl) (by kernel_rfl) (by kernel_rfl) ?_ ?_
  ·exact
    Obls.p (fun R' w' hw hs hd => of_move ((hs 4 rfl).trans h4)) <|
    Obls.p (fun R' w' hw hs hd => of_move ((hs 0 rfl).trans h0)) <|
    Obls.p (fun R' w' hw hs hd => by have a0 : R' 9 = v0 := hd.g 0 rfl; have ra0 := (f_v0.fr hw).eq a0; exact of_len_sl (aT := #[]) ra0 Tryd.underlying27) <|
    Obls.p (fun R' w' hw hs hd => by have a0 : R' 8 = .int .i64 y6 := hd.g 0 rfl; have a1 : R' 10 = .int .i64 (p0.length : Int) := hd.g 1 rfl; exact of_lss a0 a1) <|
    Obls.nil
  intro R w hw hs hF'
  replace h0 := (hs 0 rfl).trans h0
  replace h3 := (hs 3 rfl).trans h3
  replace h4 := (hs 4 rfl).trans h4
  have h11 : R 11 = .bool (decide (y6 < (p0.length : Int))) := hF' 3 _ _ rfl rfl rfl
  replace f_v0 := f_v0.fr hw
  replace hO := hO.fr hw
  replace hA := hA.fr hw.size
  replace hF := hF.trans hw
  clear hs hF' hw
  refine seqR_nil ?_
  refine HT.cond (decide (y6 < (p0.length : Int))) h11 (fun c8 => ?_) (fun c8 => ?_)
  ·have hr := cnd_t c8 hr
   refine HT.skip ?_
   refine HT.seq ?_
   refine HT.block ?_
   obtain ⟨e9, hr⟩ := ck_some hr
   obtain ⟨x10, q11, hr⟩ := cl_some hr
   obtain ⟨e12, hr⟩ := ck_some hr
   refine HT.textR [ob u2 (.vec w0.heap.size 63 E_impl_DiagramNode y7)] (⟨_, true, [], none, true, fun A => .raw u2⟩ :: ⟨_, true, [], none, true, fun A => .raw (.int .i64 y6)⟩ :: ⟨_, true, [], none, true, fun A => .raw v0⟩ :: ⟨_, true, [], none, true, fun A => .raw (.int .i64 y6)⟩ :: ⟨_, true, [], none, true, fun A => .qtr E_impl_DiagramNode A (gtD p0 y6)⟩ :: ⟨_, true, [], none, true, fun A => .rep E_impl_DiagramNode A (gtD p0 y6)⟩ :: ⟨_, true, [], none, true, fun A => .rep E_impl_DiagramNode A x10⟩ :: ⟨_, true, [], none, true, fun A => .raw (vptr u2 (y6.toNat * 4))⟩ :: ⟨_, true, [0], some (.vec w0.heap.size 63 E_impl_DiagramNode (y7.set y6.toNat x10)), false, fun A => .any⟩ :: []) (by kernel_rfl) (by kernel_rfl) (Wf.mk' (by kernel_rfl) (UAll.cons ust_raw (UAll.cons ust_raw (UAll.cons ust_raw (UAll.cons ust_raw (UAll.cons ust_qtr (UAll.cons ust_rep (UAll.cons ust_rep (UAll.cons ust_raw (UAll.cons ust_any (UAll.nil)))))))))) (by kernel_rfl) (by kernel_rfl)) hO hA ?_ ?_
   ·exact
     OblsR.p (fun A' R' w' ho hd => of_move ((ho.old 3 rfl).trans h3)) <|
     OblsR.p (fun A' R' w' ho hd => of_move ((ho.old 4 rfl).trans h4)) <|
     OblsR.p (fun A' R' w' ho hd => of_move ((ho.old 0 rfl).trans h0)) <|
     OblsR.p (fun A' R' w' ho hd => of_move ((ho.old 4 rfl).trans h4)) <|
     OblsR.p (fun A' R' w' ho hd => by have a0 : R' 16 = v0 := hd.g 0 rfl; have a1 : R' 17 = .int .i64 y6 := hd.g 1 rfl; have ra0 := (f_v0.stp ho.stp).eq a0; exact of_indexAddr ra0 a1 Tryd.underlying27 Tryd.sizeOf101 e9) <|
     OblsR.p (fun A' R' w' ho hd => by have a0 : QRep E_impl_DiagramNode A' w' (R' 18) (gtD p0 y6) := hd.g 0 rfl; exact (of_load a0.ptr Tryd.isAgg101 Tryd.sizeOf101)) <|
     OblsR.p (fun A' R' w' ho hd => by have a0 : Rep E_impl_DiagramNode A' w' (R' 19) (gtD p0 y6) := hd.g 0 rfl; exact of_call Tryd.call65 (M_laws_toDiagramNode_ok (q11 rfl) ho.av a0)) <|
     OblsR.p (fun A' R' w' ho hd => by have a0 : R' 14 = u2 := hd.g 0 rfl; have a1 : R' 15 = .int .i64 y6 := hd.g 1 rfl; exact of_indexAddr_vec (hO.ok 0 _ rfl).1 a0 a1 Tryd.underlying32 Tryd.sizeOf63 e12 rfl) <|
     OblsR.cons (OblR.took 0 _ _ rfl rfl rfl rfl rfl fun A' R' w' ho hd u hok hav hin hop hds => by have a0 : R' 21 = (vptr u2 (y6.toNat * 4)) := hd.g 0 rfl; have a1 : Rep E_impl_DiagramNode A' w' (R' 20) x10 := hd.g 1 rfl; obtain rfl := hin _ rfl; exact took_vstore a1 hok hav a0 e12 rfl (FldS.id _) Tryd.sizeOf63 rfl) <|
     OblsR.nil
   intro done ρ σ A R w hdn hI
   replace h0 : R 0 = v0 := (hI.reg rfl).trans h0
   replace h3 : R 3 = u2 := (hI.reg rfl).trans h3
   replace h4 : R 4 = .int .i64 y6 := (hI.reg rfl).trans h4
   have z13 := hI.inivR 0 rfl
   have z14 := (hI.opnR hdn 9 8 rfl rfl rfl rfl rfl).trans z13
   replace f_v0 := f_v0.stp hI.stp
   replace hAA := hI.low' hAA hA0 (hO.ge (⟨rfl, trivial⟩))
   replace hF : Fr w0 w := hF.tr hI.ch (hO.ge (⟨rfl, trivial⟩))
   replace hO : IniOK [ob u2 (.vec w0.heap.size 63 E_impl_DiagramNode (y7.set y6.toNat x10))] A w := hI.left hdn [(9, ob u2 (.vec w0.heap.size 63 E_impl_DiagramNode (y7.set y6.toNat x10)))] ⟨rfl, rfl, z14, rfl, rfl, trivial⟩
   replace hA := hI.avok
   clear hI
   obtain ⟨e15, hr⟩ := ck_some hr
   refine HT.text (l := ⟨_, true, .raw (.int .i64 y6)⟩ :: ⟨_, true, .raw (.int .i64 (y6 + (1 : Int)))⟩ :: ⟨_, true, .raw (.int .i64 (y6 + (1 : Int)))⟩ :: []) (tl := []) (by kernel_rfl) (by kernel_rfl) (by kernel_rfl) ?_ ?_
   ·exact
     Obls.p (fun R' w' hw hs hd => of_move ((hs 4 rfl).trans h4)) <|
     Obls.p (fun R' w' hw hs hd => by have a0 : R' 12 = .int .i64 y6 := hd.g 0 rfl; exact of_add a0 rfl e15) <|
     Obls.p (fun R' w' hw hs hd => by have a0 : R' 13 = .int .i64 (y6 + (1 : Int)) := hd.g 0 rfl; exact of_assign a0) <|
     Obls.nil
   intro R w hw hs hF'
   replace h0 := (hs 0 rfl).trans h0
   replace h3 := (hs 3 rfl).trans h3
   have h4 : R 4 = .int .i64 (y6 + (1 : Int)) := hF' 2 _ _ rfl rfl rfl
   replace f_v0 := f_v0.fr hw
   replace hO := hO.fr hw
   replace hA := hA.fr hw.size
   replace hF := hF.trans hw
   clear hs hF' hw
   refine seqR_nil ?_
   exact Exists.intro k (And.intro (Nat.lt_succ_self k) ⟨_, _, _, hr, hA, hF, hAA, hO, h0, h3, h4, f_v0⟩)
  ·have hr := cnd_f c8 hr
   refine HT.exit ?_
   obtain rfl := Option.some.inj hr
   exact Exists.intro _ ⟨_, rfl, hA, hF, hAA, hO, h3⟩
 rintro R w ⟨A, s5, es, hA, hF, hAA, hO, h3⟩
 obtain rfl := es.symm
 refine HT.seq ?_
 refine HT.text (l := ⟨_, true, .raw u2⟩ :: ⟨_, true, .raw u2⟩ :: []) (tl := []) (by kernel_rfl) (by kernel_rfl) (by kernel_rfl) ?_ ?_
 ·exact
   Obls.p (fun R' w' hw hs hd => of_move ((hs 3 rfl).trans h3)) <|
   Obls.p (fun R' w' hw hs hd => by have a0 : R' 22 = u2 := hd.g 0 rfl; exact of_assign a0) <|
   Obls.nil
 intro R w hw hs hF'
 have h2 : R 2 = u2 := hF' 1 _ _ rfl rfl rfl
 replace hO := hO.fr hw
 replace hA := hA.fr hw.size
 replace hF := hF.trans hw
 clear hs hF' hw
 refine seqR_nil ?_
 refine HT.ret ?_
 obtain rfl := Option.some.inj hr
 exact ⟨.inr rfl, [R 2], ⟨rfl, trivial⟩, (own_post (hO.ok 0 _ rfl) hAA h2), hF⟩
theorem M_laws_toDiagramNodeS_okR {fu : Nat} {A0 : Av} {p0 : List T_impl_DiagramNode} {r : List T_impl_DiagramNode} (hr : M_laws_toDiagramNodeS fu p0 = some r) {w : World} {v0 : Value} (hA : AvOK A0 w) (h0 : Rep (eSl E_impl_DiagramNode) A0 w v0 p0) :
  Calls Tryd.prog 38 #[v0] w fun e w' => ∃ v, e = .returned v ∧ (Rep (eSl E_impl_DiagramNode) A0 w' v r ∧ Fr w w') := by
 refine Calls.mono (M_laws_toDiagramNodeS_ok hr hA h0) ?_
 rintro e w' ⟨v, he, hv, hf⟩
 exact ⟨v, he, vec_rep hv (fun b o h => .inl h) hA, hf⟩
def M_laws_toDiagram (fu : Nat) (p0 : T_laws_Diagram) : Option T_impl_Diagram :=
 cl true (M_laws_toDiagramNodeS fu p0.2) fun x13 =>
 some (p0.1, x13)
theorem M_laws_toDiagram_ok {fu : Nat} {A0 : Av} {p0 : T_laws_Diagram} {r : T_impl_Diagram} (hr : M_laws_toDiagram fu p0 = some r) {w : World} {v0 : Value} (hA : AvOK A0 w) (h0 : Rep E_laws_Diagram A0 w v0 p0) :
  Calls Tryd.prog 14 #[v0] w fun e w' => ∃ v, e = .returned v ∧ (MadeS A0 (trR (geB w.heap.size) (oPr (oRd (eInt .i64)) (oSl 63 (oRd E_impl_DiagramNode))) r []) (fun _ => .any) w v w') := by
 unfold M_laws_toDiagram at hr
 obtain ⟨w0, hw0⟩ : ∃ w0, w0 = w := ⟨_, rfl⟩
 have hF : Fr w0 w := hw0 ▸ Fr.refl _
 have hA0 : ∀ b o, A0 b o → b < w0.heap.size := fun b o h => hw0 ▸ hA b o h
 have hA00 : AvOK A0 w0 := hA0
 rw [show MadeS A0 (trR (geB w.heap.size) (oPr (oRd (eInt .i64)) (oSl 63 (oRd E_impl_DiagramNode))) r []) (fun _ => .any) w = MadeS A0 (trR (geB w0.heap.size) (oPr (oRd (eInt .i64)) (oSl 63 (oRd E_impl_DiagramNode))) r []) (fun _ => .any) w0 from hw0 ▸ rfl]
 clear hw0
 obtain ⟨A, hAe⟩ : ∃ A, A = A0 := ⟨_, rfl⟩
 have hAA : ∀ b o, A0 b o → A b o := fun b o h => hAe ▸ h
 replace hA : AvOK A w := hAe ▸ hA
 have hO : IniOK [] A w := IniOK.nil
 refine calls_of_HT2 [.cell 2 34] Tryd.func14 Tryd.ntmps14 (by decide) rfl rfl (Nat.le_of_ble_eq_true rfl) ?_
 intro R hR
 have f_v0 : Rep E_laws_Diagram A w v0 p0 := hAe ▸ h0
 replace h0 : R 0 = v0 := hR 0 _ rfl
 clear hR hAe
 refine HT.seq ?_
 refine HT.textR [] (⟨_, true, [], some (.box w0.heap.size 29 E_laws_Diagram p0), true, fun A => .any⟩ :: ⟨_, true, [], some (trR (geB w0.heap.size) (oPt 34 (oPr (oRd (eInt .i64)) (oSl 63 (oRd E_impl_DiagramNode)))) ((0 : Int), ([] : List T_impl_DiagramNode)) []), true, fun A => .any⟩ :: []) (by kernel_rfl) (by kernel_rfl) (Wf.mk' (by kernel_rfl) (UAll.cons ust_any (UAll.cons ust_any (UAll.nil))) (by kernel_rfl) (by kernel_rfl)) hO hA ?_ ?_
 ·exact
   OblsR.cons (OblR.made _ rfl rfl rfl rfl fun A' R' w' ho hd => by have a0 : R' 0 = v0 := (ho.old 0 rfl).trans h0; have ra0 := (f_v0.stp ho.stp).eq a0; exact made_box ra0 (Nat.le_trans hF.size ho.ch.size)) <|
   OblsR.cons (OblR.madeS _ rfl rfl rfl rfl fun A' R' w' ho hd => by exact made_allocT Tryd.zeroValue34 (fun A w => own_pr (own_rd rep1_int) own_nil) (fun k hk => Nat.le_trans (Nat.le_trans hF.size ho.ch.size) hk)) <|
   OblsR.nil
 intro done ρ σ A R w hdn hI
 obtain ⟨b1_0, e_b1_0⟩ := hI.boxv hdn 0 rfl rfl
 have h1 : R 1 = (.pointer (some ⟨b1_0, 0, none⟩)) := (hI.opvR hdn 0 0 rfl rfl rfl rfl rfl).symm.trans e_b1_0
 obtain ⟨u2, e_u2⟩ : ∃ u, ρ 1 = u := ⟨_, rfl⟩
 have h2 : R 2 = u2 := (hI.opvR hdn 1 1 rfl rfl rfl rfl rfl).symm.trans e_u2
 obtain ⟨S3, eS_u2⟩ : ∃ S, σ 1 = S := ⟨_, rfl⟩
 replace hAA := hI.low' hAA hA0 (hO.ge (trivial))
 replace hF : Fr w0 w := hF.tr hI.ch (hO.ge (trivial))
 replace hO : IniOK [ob (.pointer (some ⟨b1_0, 0, none⟩)) (.box w0.heap.size 29 E_laws_Diagram p0), ⟨u2, S3, trR (geB w0.heap.size) (oPt 34 (oPr (oRd (eInt .i64)) (oSl 63 (oRd E_impl_DiagramNode)))) ((0 : Int), ([] : List T_impl_DiagramNode)) []⟩] A w := hI.left hdn [(0, ob (.pointer (some ⟨b1_0, 0, none⟩)) (.box w0.heap.size 29 E_laws_Diagram p0)), (1, ⟨u2, S3, trR (geB w0.heap.size) (oPt 34 (oPr (oRd (eInt .i64)) (oSl 63 (oRd E_impl_DiagramNode)))) ((0 : Int), ([] : List T_impl_DiagramNode)) []⟩)] ⟨rfl, rfl, e_b1_0, rfl, rfl, ⟨rfl, rfl, e_u2, eS_u2, rfl, trivial⟩⟩
 replace hA := hI.avok
 clear hI
 refine HT.seq ?_
 refine HT.textR [ob (.pointer (some ⟨b1_0, 0, none⟩)) (.box w0.heap.size 29 E_laws_Diagram p0), ⟨u2, S3, trR (geB w0.heap.size) (oPt 34 (oPr (oRd (eInt .i64)) (oSl 63 (oRd E_impl_DiagramNode)))) ((0 : Int), ([] : List T_impl_DiagramNode)) []⟩] (⟨_, true, [], some (trR (geB w0.heap.size) (oPt 34 (oPr (oRd (eInt .i64)) (oSl 63 (oRd E_impl_DiagramNode)))) ((0 : Int), ([] : List T_impl_DiagramNode)) []), true, fun A => .any⟩ :: []) (by kernel_rfl) (by kernel_rfl) (Wf.mk' (by kernel_rfl) (UAll.cons ust_any (UAll.nil)) (by kernel_rfl) (by kernel_rfl)) hO hA ?_ ?_
 ·exact
   OblsR.cons (OblR.madeS _ rfl rfl rfl rfl fun A' R' w' ho hd => by exact made_allocT Tryd.zeroValue34 (fun A w => own_pr (own_rd rep1_int) own_nil) (fun k hk => Nat.le_trans (Nat.le_trans hF.size ho.ch.size) hk)) <|
   OblsR.nil
 intro done ρ σ A R w hdn hI
 replace h1 : R 1 = (.pointer (some ⟨b1_0, 0, none⟩)) := (hI.reg rfl).trans h1
 replace h2 : R 2 = u2 := (hI.reg rfl).trans h2
 have z4 := hI.inivR 0 rfl
 have z5 := hI.inivR 1 rfl
 obtain ⟨u6, e_u6⟩ : ∃ u, ρ 2 = u := ⟨_, rfl⟩
 have h3 : R 3 = u6 := (hI.opvR hdn 2 0 rfl rfl rfl rfl rfl).symm.trans e_u6
 have eS_u2 := hI.inisR 1 rfl
 obtain ⟨S7, eS_u6⟩ : ∃ S, σ 2 = S := ⟨_, rfl⟩
 replace hAA := hI.low' hAA hA0 (hO.ge (⟨rfl, ⟨fun _ h => h, trivial⟩⟩))
 replace hF : Fr w0 w := hF.tr hI.ch (hO.ge (⟨rfl, ⟨fun _ h => h, trivial⟩⟩))
 replace hO : IniOK [ob (.pointer (some ⟨b1_0, 0, none⟩)) (.box w0.heap.size 29 E_laws_Diagram p0), ⟨u2, S3, trR (geB w0.heap.size) (oPt 34 (oPr (oRd (eInt .i64)) (oSl 63 (oRd E_impl_DiagramNode)))) ((0 : Int), ([] : List T_impl_DiagramNode)) []⟩, ⟨u6, S7, trR (geB w0.heap.size) (oPt 34 (oPr (oRd (eInt .i64)) (oSl 63 (oRd E_impl_DiagramNode)))) ((0 : Int), ([] : List T_impl_DiagramNode)) []⟩] A w := hI.left hdn [(0, ob (.pointer (some ⟨b1_0, 0, none⟩)) (.box w0.heap.size 29 E_laws_Diagram p0)), (1, ⟨u2, S3, trR (geB w0.heap.size) (oPt 34 (oPr (oRd (eInt .i64)) (oSl 63 (oRd E_impl_DiagramNode)))) ((0 : Int), ([] : List T_impl_DiagramNode)) []⟩), (2, ⟨u6, S7, trR (geB w0.heap.size) (oPt 34 (oPr (oRd (eInt .i64)) (oSl 63 (oRd E_impl_DiagramNode)))) ((0 : Int), ([] : List T_impl_DiagramNode)) []⟩)] ⟨rfl, rfl, z4, rfl, rfl, ⟨rfl, rfl, z5, eS_u2, rfl, ⟨rfl, rfl, e_u6, eS_u6, rfl, trivial⟩⟩⟩
 replace hA := hI.avok
 clear hI
 refine HT.seq ?_
 refine HT.textR [ob (.pointer (some ⟨b1_0, 0, none⟩)) (.box w0.heap.size 29 E_laws_Diagram p0), ⟨u2, S3, trR (geB w0.heap.size) (oPt 34 (oPr (oRd (eInt .i64)) (oSl 63 (oRd E_impl_DiagramNode)))) ((0 : Int), ([] : List T_impl_DiagramNode)) []⟩, ⟨u6, S7, trR (geB w0.heap.size) (oPt 34 (oPr (oRd (eInt .i64)) (oSl 63 (oRd E_impl_DiagramNode)))) ((0 : Int), ([] : List T_impl_DiagramNode)) []⟩] (⟨_, true, [], none, true, fun A => .raw (.pointer (some ⟨b1_0, 0, none⟩))⟩ :: ⟨_, true, [], none, true, fun A => .raw (.int .i64 p0.1)⟩ :: ⟨_, true, [], none, true, fun A => .raw u6⟩ :: ⟨_, true, [2], some (trR (geB w0.heap.size) (oPt 34 (oPr (oRd (eInt .i64)) (oSl 63 (oRd E_impl_DiagramNode)))) (p0.1, ([] : List T_impl_DiagramNode)) []), false, fun A => .any⟩ :: []) (by kernel_rfl) (by kernel_rfl) (Wf.mk' (by kernel_rfl) (UAll.cons ust_raw (UAll.cons ust_raw (UAll.cons ust_raw (UAll.cons ust_any (UAll.nil))))) (by kernel_rfl) (by kernel_rfl)) hO hA ?_ ?_
 ·exact
   OblsR.p (fun A' R' w' ho hd => of_fieldAddr_raw ((ho.old 1 rfl).trans h1) ff_29_0 Tryd.sizeOf3 (by decide) rfl) <|
   OblsR.p (fun A' R' w' ho hd => by have a0 : R' 4 = (.pointer (some ⟨b1_0, 0, none⟩)) := hd.g 0 rfl; exact OpF.int (of_load_box (ho.rd 0 _ rfl rfl) a0 fl_laws_Diagram_0 rfl Tryd.isAgg3 Tryd.sizeOf3)) <|
   OblsR.p (fun A' R' w' ho hd => of_fieldAddr_tr ((tr_root (hO.own 2 _ rfl).2).ptr).ad ((ho.old 3 rfl).trans h3) ff_34_0 Tryd.sizeOf3 (by decide) (padd_zero ((tr_root (hO.own 2 _ rfl).2).ptr).ad)) <|
   OblsR.cons (OblR.tookS 2 _ _ rfl rfl rfl rfl rfl fun A' R' w' ho hd u S hok hown hav hin hop hds => by have a0 : R' 6 = u6 := hd.g 0 rfl; have a1 : R' 5 = .int .i64 p0.1 := hd.g 1 rfl; have e0 := (hin _ rfl).1; rw [e0] at hown ⊢; exact took_hstore ((tr_root hown.2).ptr).fst (rep_int.eq a1) a0 hav hown.1 Tryd.sizeOf3 (fun _ _ _ h => h)) <|
   OblsR.nil
 intro done ρ σ A R w hdn hI
 replace h1 : R 1 = (.pointer (some ⟨b1_0, 0, none⟩)) := (hI.reg rfl).trans h1
 replace h2 : R 2 = u2 := (hI.reg rfl).trans h2
 replace h3 : R 3 = u6 := (hI.reg rfl).trans h3
 have z8 := hI.inivR 0 rfl
 have z9 := hI.inivR 1 rfl
 have z10 := hI.inivR 2 rfl
 have z11 := (hI.opnR hdn 6 3 rfl rfl rfl rfl rfl).trans z10
 have eS_u2 := hI.inisR 1 rfl
 obtain ⟨S12, eS_u6⟩ : ∃ S, σ 6 = S := ⟨_, rfl⟩
 replace hAA := hI.low' hAA hA0 (hO.ge (⟨rfl, ⟨fun _ h => h, ⟨fun _ h => h, trivial⟩⟩⟩))
 replace hF : Fr w0 w := hF.tr hI.ch (hO.ge (⟨rfl, ⟨fun _ h => h, ⟨fun _ h => h, trivial⟩⟩⟩))
 replace hO : IniOK [ob (.pointer (some ⟨b1_0, 0, none⟩)) (.box w0.heap.size 29 E_laws_Diagram p0), ⟨u2, S3, trR (geB w0.heap.size) (oPt 34 (oPr (oRd (eInt .i64)) (oSl 63 (oRd E_impl_DiagramNode)))) ((0 : Int), ([] : List T_impl_DiagramNode)) []⟩, ⟨u6, S12, trR (geB w0.heap.size) (oPt 34 (oPr (oRd (eInt .i64)) (oSl 63 (oRd E_impl_DiagramNode)))) (p0.1, ([] : List T_impl_DiagramNode)) []⟩] A w := hI.left hdn [(0, ob (.pointer (some ⟨b1_0, 0, none⟩)) (.box w0.heap.size 29 E_laws_Diagram p0)), (1, ⟨u2, S3, trR (geB w0.heap.size) (oPt 34 (oPr (oRd (eInt .i64)) (oSl 63 (oRd E_impl_DiagramNode)))) ((0 : Int), ([] : List T_impl_DiagramNode)) []⟩), (6, ⟨u6, S12, trR (geB w0.heap.size) (oPt 34 (oPr (oRd (eInt .i64)) (oSl 63 (oRd E_impl_DiagramNode)))) (p0.1, ([] : List T_impl_DiagramNode)) []⟩)] ⟨rfl, rfl, z8, rfl, rfl, ⟨rfl, rfl, z9, eS_u2, rfl, ⟨rfl, rfl, z11, eS_u6, rfl, trivial⟩⟩⟩
 replace hA := hI.avok
 clear hI
 refine HT.seq ?_
 obtain ⟨x13, q14, hr⟩ := cl_some hr
 refine HT.textR [ob (.pointer (some ⟨b1_0, 0, none⟩)) (.box w0.heap.size 29 E_laws_Diagram p0), ⟨u2, S3, trR (geB w0.heap.size) (oPt 34 (oPr (oRd (eInt .i64)) (oSl 63 (oRd E_impl_DiagramNode)))) ((0 : Int), ([] : List T_impl_DiagramNode)) []⟩, ⟨u6, S12, trR (geB w0.heap.size) (oPt 34 (oPr (oRd (eInt .i64)) (oSl 63 (oRd E_impl_DiagramNode)))) (p0.1, ([] : List T_impl_DiagramNode)) []⟩] (⟨_, true, [], none, true, fun A => .raw (.pointer (some ⟨b1_0, 1, none⟩))⟩ :: ⟨_, true, [], none, true, fun A => .rep (eSl E_impl_DiagramNode) A p0.2⟩ :: ⟨_, true, [], some (.vec w0.heap.size 63 E_impl_DiagramNode x13), true, fun A => .any⟩ :: ⟨_, true, [], none, true, fun A => .raw (padd u6 1)⟩ :: ⟨_, true, [2, 5], some (trR (geB w0.heap.size) (oPt 34 (oPr (oRd (eInt .i64)) (oSl 63 (oRd E_impl_DiagramNode)))) (p0.1, x13) []), false, fun A => .any⟩ :: []) (by kernel_rfl) (by kernel_rfl) (Wf.mk' (by kernel_rfl) (UAll.cons ust_raw (UAll.cons ust_rep (UAll.cons ust_any (UAll.cons ust_raw (UAll.cons ust_any (UAll.nil)))))) (by kernel_rfl) (by kernel_rfl)) hO hA ?_ ?_
 ·exact
   OblsR.p (fun A' R' w' ho hd => of_fieldAddr_raw ((ho.old 1 rfl).trans h1) ff_29_1 Tryd.sizeOf27 (by decide) rfl) <|
   OblsR.p (fun A' R' w' ho hd => by have a0 : R' 7 = (.pointer (some ⟨b1_0, 1, none⟩)) := hd.g 0 rfl; exact (of_load_box (ho.rd 0 _ rfl rfl) a0 fl_laws_Diagram_1 rfl Tryd.isAgg27 Tryd.sizeOf27)) <|
   OblsR.cons (OblR.made _ rfl rfl rfl rfl fun A' R' w' ho hd => by have a0 : Rep (eSl E_impl_DiagramNode) A' w' (R' 8) p0.2 := hd.g 0 rfl; exact made_call Tryd.call38 (M_laws_toDiagramNodeS_ok (q14 rfl) ho.av a0) (Nat.le_trans hF.size ho.ch.size)) <|
   OblsR.p (fun A' R' w' ho hd => of_fieldAddr_tr ((tr_root (hO.own 2 _ rfl).2).ptr).ad ((ho.old 3 rfl).trans h3) ff_34_1 Tryd.sizeOf32 (by decide) rfl) <|
   OblsR.cons (OblR.tookM 2 [5] _ rfl rfl rfl rfl fun A' R' w' ho hd ρ σ hok hav hin hop hds hdd => by have a0 : R' 10 = (padd u6 1) := hd.g 0 rfl; have k1 := hok 2 (.head _) _ rfl; have e0 := (hin 2 (.head _) _ rfl).1; rw [e0] at k1 ⊢; exact took_put2 rfl (((tr_root k1.2.2).ptr).snd rfl) (own_of_vec' (hok 5 (.tail _ (.head _)) _ rfl).1 (hok 5 (.tail _ (.head _)) _ rfl).2) (hop 5 (.tail _ (.head _)) _ _ rfl rfl rfl rfl).symm a0 hav hdd k1.2.1 (vec_ge (hok 5 (.tail _ (.head _)) _ rfl).1 (hok 5 (.tail _ (.head _)) _ rfl).2) Tryd.sizeOf32 (fun _ _ _ h => h)) <|
   OblsR.nil
 intro done ρ σ A R w hdn hI
 replace h2 : R 2 = u2 := (hI.reg rfl).trans h2
 replace h3 : R 3 = u6 := (hI.reg rfl).trans h3
 have z15 := hI.inivR 0 rfl
 have z16 := hI.inivR 1 rfl
 have z17 := hI.inivR 2 rfl
 have z18 := (hI.opnR hdn 7 4 rfl rfl rfl rfl rfl).trans z17
 have eS_u2 := hI.inisR 1 rfl
 obtain ⟨S19, eS_u6⟩ : ∃ S, σ 7 = S := ⟨_, rfl⟩
 replace hAA := hI.low' hAA hA0 (hO.ge (⟨rfl, ⟨fun _ h => h, ⟨fun _ h => h, trivial⟩⟩⟩))
 replace hF : Fr w0 w := hF.tr hI.ch (hO.ge (⟨rfl, ⟨fun _ h => h, ⟨fun _ h => h, trivial⟩⟩⟩))
 replace hO : IniOK [⟨u2, S3, trR (geB w0.heap.size) (oPt 34 (oPr (oRd (eInt .i64)) (oSl 63 (oRd E_impl_DiagramNode)))) ((0 : Int), ([] : List T_impl_DiagramNode)) []⟩, ⟨u6, S19, trR (geB w0.heap.size) (oPt 34 (oPr (oRd (eInt .i64)) (oSl 63 (oRd E_impl_DiagramNode)))) (p0.1, x13) []⟩] A w := hI.left hdn [(1, ⟨u2, S3, trR (geB w0.heap.size) (oPt 34 (oPr (oRd (eInt .i64)) (oSl 63 (oRd E_impl_DiagramNode)))) ((0 : Int), ([] : List T_impl_DiagramNode)) []⟩), (7, ⟨u6, S19, trR (geB w0.heap.size) (oPt 34 (oPr (oRd (eInt .i64)) (oSl 63 (oRd E_impl_DiagramNode)))) (p0.1, x13) []⟩)] ⟨rfl, rfl, z16, eS_u2, rfl, ⟨rfl, rfl, z18, eS_u6, rfl, trivial⟩⟩
 replace hA := hI.avok
 clear hI
 refine HT.seq ?_
 refine HT.textR [⟨u2, S3, trR (geB w0.heap.size) (oPt 34 (oPr (oRd (eInt .i64)) (oSl 63 (oRd E_impl_DiagramNode)))) ((0 : Int), ([] : List T_impl_DiagramNode)) []⟩, ⟨u6, S19, trR (geB w0.heap.size) (oPt 34 (oPr (oRd (eInt .i64)) (oSl 63 (oRd E_impl_DiagramNode)))) (p0.1, x13) []⟩] (⟨_, true, [1], some (trR (geB w0.heap.size) (oPr (oRd (eInt .i64)) (oSl 63 (oRd E_impl_DiagramNode))) (p0.1, x13) []), true, fun A => .any⟩ :: ⟨_, true, [0, 2], some (trR (geB w0.heap.size) (oPt 34 (oPr (oRd (eInt .i64)) (oSl 63 (oRd E_impl_DiagramNode)))) (p0.1, x13) []), false, fun A => .any⟩ :: []) (by kernel_rfl) (by kernel_rfl) (Wf.mk' (by kernel_rfl) (UAll.cons ust_any (UAll.cons ust_any (UAll.nil))) (by kernel_rfl) (by kernel_rfl)) hO hA ?_ ?_
 ·exact
   OblsR.cons (OblR.tookS 1 _ _ rfl rfl rfl rfl rfl fun A' R' w' ho hd u S hok hown hav hin hop hds => by have a0 : R' 3 = u6 := (ho.old 3 rfl).trans h3; exact took_loadT hown.2 (a0.trans (hin _ rfl).1.symm) hav hown.1 Tryd.isAgg34 Tryd.sizeOf34) <|
   OblsR.cons (OblR.tookM 0 [2] _ rfl rfl rfl rfl fun A' R' w' ho hd ρ σ hok hav hin hop hds hdd => by have a0 : R' 2 = u2 := (ho.old 2 rfl).trans h2; have k1 := hok 0 (.head _) _ rfl; have e0 := (hin 0 (.head _) _ rfl).1; rw [e0] at k1 ⊢; exact took_put2 rfl (tr_root k1.2.2).ptr (hok 2 (.tail _ (.head _)) _ rfl).2.2.1 (hop 2 (.tail _ (.head _)) _ _ rfl rfl rfl rfl).symm a0 hav hdd k1.2.1 (hok 2 (.tail _ (.head _)) _ rfl).2.1 Tryd.sizeOf34 (fun _ _ _ h => h)) <|
   OblsR.nil
 intro done ρ σ A R w hdn hI
 replace h2 : R 2 = u2 := (hI.reg rfl).trans h2
 have z20 := hI.inivR 0 rfl
 have z21 := (hI.opnR hdn 3 1 rfl rfl rfl rfl rfl).trans z20
 obtain ⟨S22, eS_u2⟩ : ∃ S, σ 3 = S := ⟨_, rfl⟩
 replace hAA := hI.low' hAA hA0 (hO.ge (⟨fun _ h => h, ⟨fun _ h => h, trivial⟩⟩))
 replace hF : Fr w0 w := hF.tr hI.ch (hO.ge (⟨fun _ h => h, ⟨fun _ h => h, trivial⟩⟩))
 replace hO : IniOK [⟨u2, S22, trR (geB w0.heap.size) (oPt 34 (oPr (oRd (eInt .i64)) (oSl 63 (oRd E_impl_DiagramNode)))) (p0.1, x13) []⟩] A w := hI.left hdn [(3, ⟨u2, S22, trR (geB w0.heap.size) (oPt 34 (oPr (oRd (eInt .i64)) (oSl 63 (oRd E_impl_DiagramNode)))) (p0.1, x13) []⟩)] ⟨rfl, rfl, z21, eS_u2, rfl, trivial⟩
 replace hA := hI.avok
 clear hI
 refine HT.ret ?_
 obtain rfl := Option.some.inj hr
 obtain ⟨v_, e_, p_⟩ := tree_post_cell (T := 34) (f := fun _ => .any) rfl (hO.own 0 _ rfl) (hO.ok 0 _ rfl).2 hAA hF h2 Tryd.isAgg34 Tryd.sizeOf34 (fun _ _ => trivial)
 exact ⟨.inr rfl, [v_], ⟨e_, trivial⟩, p_⟩
theorem M_laws_toDiagram_okR {fu : Nat} {A0 : Av} {p0 : T_laws_Diagram} {r : T_impl_Diagram} (hr : M_laws_toDiagram fu p0 = some r) {w : World} {v0 : Value} (hA : AvOK A0 w) (h0 : Rep E_laws_Diagram A0 w v0 p0) :
  Calls Tryd.prog 14 #[v0] w fun e w' => ∃ v, e = .returned v ∧ (Rep E_impl_Diagram A0 w' v r ∧ Fr w w') := by
 refine Calls.mono (M_laws_toDiagram_ok hr hA h0) ?_
 rintro e w' ⟨v, he, h⟩
 exact ⟨v, he, madeS_rep h hA⟩
def M_spec_l1In (fu : Nat) (p0 : Int) (p1 : Int) (p2 : Int) : Option Bool :=
 bd ((decide (p1 ≤ p0)) && (decide (p0 ≤ p2))) fun x1 =>
 some x1
theorem M_spec_l1In_ok {fu : Nat} {A : Av} {p0 : Int} {p1 : Int} {p2 : Int} {r : Bool} (hr : M_spec_l1In fu p0 p1 p2 = some r) {w : World} {v0 : Value} {v1 : Value} {v2 : Value} (hA : AvOK A w) (h0 : v0 = .int .i64 p0) (h1 : v1 = .int .i64 p1) (h2 : v2 = .int .i64 p2) :
  Calls Tryd.prog 56 #[v0, v1, v2] w fun e w' => ∃ v, e = .returned v ∧ (v = .bool r ∧ Fr w w') := by
 unfold M_spec_l1In at hr
 obtain ⟨w0, hw0⟩ : ∃ w0, w0 = w := ⟨_, rfl⟩
 have hF : Fr w0 w := hw0 ▸ Fr.refl _
 rw [show Fr w = Fr w0 from hw0 ▸ rfl]
 clear hw0
 refine calls_of_HT2 [.tmp 6] Tryd.func56 Tryd.ntmps56 (by decide) rfl rfl (Nat.le_of_ble_eq_true rfl) ?_
 intro R hR
 replace h0 : R 0 = .int .i64 p0 := (hR 0 _ rfl).trans h0
 replace h1 : R 1 = .int .i64 p1 := (hR 1 _ rfl).trans h1
 replace h2 : R 2 = .int .i64 p2 := (hR 2 _ rfl).trans h2
 clear hR
 refine HT.seq ?_
 refine HT.text (l := ⟨_, true, .raw (.bool false)⟩ :: []) (tl := []) (by kernel_rfl) (by kernel_rfl) (by kernel_rfl) ?_ ?_
 ·exact
   Obls.p (fun R' w' hw hs hd => of_assign rfl) <|
   Obls.nil
 intro R w hw hs hF'
 replace h0 := (hs 0 rfl).trans h0
 replace h1 := (hs 1 rfl).trans h1
 replace h2 := (hs 2 rfl).trans h2
 replace hA := hA.fr hw.size
 replace hF := hF.trans hw
 clear hs hF' hw
 refine seqR_nil ?_
 refine HT.seq ?_
 obtain ⟨x1, q2, hr⟩ := bd_some hr
 refine HT.text (l := ⟨_, true, .raw (.int .i64 p0)⟩ :: ⟨_, true, .raw (.int .i64 p1)⟩ :: ⟨_, true, .raw (.bool (decide (p1 ≤ p0)))⟩ :: ⟨_, true, .raw (.bool (decide (p1 ≤ p0)))⟩ :: ⟨_, (true && ((decide (p1 ≤ p0)) == true)), .raw (.int .i64 p0)⟩ :: ⟨_, (true && ((decide (p1 ≤ p0)) == true)), .raw (.int .i64 p2)⟩ :: ⟨_, (true && ((decide (p1 ≤ p0)) == true)), .raw (.bool (decide (p0 ≤ p2)))⟩ :: ⟨_, true, .raw (.bool x1)⟩ :: ⟨_, true, .raw (.bool x1)⟩ :: []) (tl := []) (by kernel_rfl) (by kernel_rfl) (by kernel_rfl) ?_ ?_
 ·exact
   Obls.p (fun R' w' hw hs hd => of_move ((hs 0 rfl).trans h0)) <|
   Obls.p (fun R' w' hw hs hd => of_move ((hs 1 rfl).trans h1)) <|
   Obls.p (fun R' w' hw hs hd => by have a0 : R' 7 = .int .i64 p0 := hd.g 0 rfl; have a1 : R' 8 = .int .i64 p1 := hd.g 1 rfl; exact of_geq a0 a1) <|
   Obls.p (fun R' w' hw hs hd => by have a0 : R' 9 = .bool (decide (p1 ≤ p0)) := hd.g 0 rfl; exact of_move a0) <|
   Obls.cons (Obl.grd 3 true _ _ _ rfl rfl rfl rfl rfl (by kernel_rfl) fun hg R' w' hw hs hd => by have a0 : R' 0 = .int .i64 p0 := (hs 0 rfl).trans h0; exact of_move a0) <|
   Obls.cons (Obl.grd 3 true _ _ _ rfl rfl rfl rfl rfl (by kernel_rfl) fun hg R' w' hw hs hd => by have a0 : R' 2 = .int .i64 p2 := (hs 2 rfl).trans h2; exact of_move a0) <|
   Obls.cons (Obl.grd 3 true _ _ _ rfl rfl rfl rfl rfl (by kernel_rfl) fun hg R' w' hw hs hd => by have a0 : R' 11 = .int .i64 p0 := hd 0 _ _ _ rfl rfl rfl rfl hg; have a1 : R' 12 = .int .i64 p2 := hd 1 _ _ _ rfl rfl rfl rfl hg; exact of_leq a0 a1) <|
   Obls.p (fun R' w' hw hs hd => by have a0 : R' 10 = .bool (decide (p1 ≤ p0)) := hd.g 0 rfl; exact of_pick (decide (p1 ≤ p0)) a0 (fun hc => by have a1 : R' 13 = .bool (decide (p0 ≤ p2)) := hd 1 _ _ _ rfl rfl rfl rfl (g_and rfl (beq_of hc)); show _ = Value.bool x1; rw [q2, hc]; exact a1) (fun hc => by show _ = Value.bool x1; rw [q2, hc]; exact rfl)) <|
   Obls.p (fun R' w' hw hs hd => by have a0 : R' 14 = .bool x1 := hd.g 0 rfl; exact of_assign a0) <|
   Obls.nil
 intro R w hw hs hF'
 have h6 : R 6 = .bool x1 := hF' 8 _ _ rfl rfl rfl
 replace hA := hA.fr hw.size
 replace hF := hF.trans hw
 clear hs hF' hw
 refine seqR_nil ?_
 refine HT.ret ?_
 obtain rfl := Option.some.inj hr
 exact ⟨.inr rfl, [R 6], ⟨rfl, trivial⟩, h6, hF⟩
def M_spec_l15Before (fu : Nat) (p0 : T_impl_DiagramNode) (p1 : T_impl_DiagramNode) : Option Bool :=
 bd ((p0.1 == p1.1) && (decide (p0.2.1 < p1.2.1))) fun x3 =>
 bd ((decide (p0.1 < p1.1)) || x3) fun x5 =>
 some x5
theorem M_spec_l15Before_ok {fu : Nat} {A0 : Av} {p0 : T_impl_DiagramNode} {p1 : T_impl_DiagramNode} {r : Bool} (hr : M_spec_l15Before fu p0 p1 = some r) {w : World} {v0 : Value} {v1 : Value} (hA : AvOK A0 w) (h0 : Rep E_impl_DiagramNode A0 w v0 p0) (h1 : Rep E_impl_DiagramNode A0 w v1 p1) :
  Calls Tryd.prog 64 #[v0, v1] w fun e w' => ∃ v, e = .returned v ∧ (v = .bool r ∧ Fr w w') := by
 unfold M_spec_l15Before at hr
 obtain ⟨w0, hw0⟩ : ∃ w0, w0 = w := ⟨_, rfl⟩
 have hF : Fr w0 w := hw0 ▸ Fr.refl _
 have hA0 : ∀ b o, A0 b o → b < w0.heap.size := fun b o h => hw0 ▸ hA b o h
 have hA00 : AvOK A0 w0 := hA0
 rw [show Fr w = Fr w0 from hw0 ▸ rfl]
 clear hw0
 obtain ⟨A, hAe⟩ : ∃ A, A = A0 := ⟨_, rfl⟩
 have hAA : ∀ b o, A0 b o → A b o := fun b o h => hAe ▸ h
 replace hA : AvOK A w := hAe ▸ hA
 have hO : IniOK [] A w := IniOK.nil
 refine calls_of_HT2 [.tmp 4] Tryd.func64 Tryd.ntmps64 (by decide) rfl rfl (Nat.le_of_ble_eq_true rfl) ?_
 intro R hR
 have f_v0 : Rep E_impl_DiagramNode A w v0 p0 := hAe ▸ h0
 replace h0 : R 0 = v0 := hR 0 _ rfl
 have f_v1 : Rep E_impl_DiagramNode A w v1 p1 := hAe ▸ h1
 replace h1 : R 1 = v1 := hR 1 _ rfl
 clear hR hAe
 refine HT.seq ?_
 refine HT.textR [] (⟨_, true, [], some (.box w0.heap.size 63 E_impl_DiagramNode p0), true, fun A => .any⟩ :: ⟨_, true, [], some (.box w0.heap.size 63 E_impl_DiagramNode p1), true, fun A => .any⟩ :: ⟨_, true, [], none, true, fun A => .raw (.bool false)⟩ :: []) (by kernel_rfl) (by kernel_rfl) (Wf.mk' (by kernel_rfl) (UAll.cons ust_any (UAll.cons ust_any (UAll.cons ust_raw (UAll.nil)))) (by kernel_rfl) (by kernel_rfl)) hO hA ?_ ?_
 ·exact
   OblsR.cons (OblR.made _ rfl rfl rfl rfl fun A' R' w' ho hd => by have a0 : R' 0 = v0 := (ho.old 0 rfl).trans h0; have ra0 := (f_v0.stp ho.stp).eq a0; exact made_box ra0 (Nat.le_trans hF.size ho.ch.size)) <|
   OblsR.cons (OblR.made _ rfl rfl rfl rfl fun A' R' w' ho hd => by have a0 : R' 1 = v1 := (ho.old 1 rfl).trans h1; have ra0 := (f_v1.stp ho.stp).eq a0; exact made_box ra0 (Nat.le_trans hF.size ho.ch.size)) <|
   OblsR.p (fun A' R' w' ho hd => of_assign rfl) <|
   OblsR.nil
 intro done ρ σ A R w hdn hI
 obtain ⟨b2_0, e_b2_0⟩ := hI.boxv hdn 0 rfl rfl
 have h2 : R 2 = (.pointer (some ⟨b2_0, 0, none⟩)) := (hI.opvR hdn 0 0 rfl rfl rfl rfl rfl).symm.trans e_b2_0
 obtain ⟨b3_1, e_b3_1⟩ := hI.boxv hdn 1 rfl rfl
 have h3 : R 3 = (.pointer (some ⟨b3_1, 0, none⟩)) := (hI.opvR hdn 1 1 rfl rfl rfl rfl rfl).symm.trans e_b3_1
 replace hAA := hI.low' hAA hA0 (hO.ge (trivial))
 replace hF : Fr w0 w := hF.tr hI.ch (hO.ge (trivial))
 replace hO : IniOK [ob (.pointer (some ⟨b2_0, 0, none⟩)) (.box w0.heap.size 63 E_impl_DiagramNode p0), ob (.pointer (some ⟨b3_1, 0, none⟩)) (.box w0.heap.size 63 E_impl_DiagramNode p1)] A w := hI.left hdn [(0, ob (.pointer (some ⟨b2_0, 0, none⟩)) (.box w0.heap.size 63 E_impl_DiagramNode p0)), (1, ob (.pointer (some ⟨b3_1, 0, none⟩)) (.box w0.heap.size 63 E_impl_DiagramNode p1))] ⟨rfl, rfl, e_b2_0, rfl, rfl, ⟨rfl, rfl, e_b3_1, rfl, rfl, trivial⟩⟩
 replace hA := hI.avok
 clear hI
 refine HT.seq ?_
 obtain ⟨x3, q4, hr⟩ := bd_some hr
 obtain ⟨x5, q6, hr⟩ := bd_some hr
 refine HT.text (l := ⟨_, true, .raw (.pointer (some ⟨b2_0, 0, none⟩))⟩ :: ⟨_, true, .raw (.int .i64 p0.1)⟩ :: ⟨_, true, .raw (.pointer (some ⟨b3_1, 0, none⟩))⟩ :: ⟨_, true, .raw (.int .i64 p1.1)⟩ :: ⟨_, true, .raw (.bool (decide (p0.1 < p1.1)))⟩ :: ⟨_, true, .raw (.bool (decide (p0.1 < p1.1)))⟩ :: ⟨_, (true && ((decide (p0.1 < p1.1)) == false)), .raw (.pointer (some ⟨b2_0, 0, none⟩))⟩ :: ⟨_, (true && ((decide (p0.1 < p1.1)) == false)), .raw (.int .i64 p0.1)⟩ :: ⟨_, (true && ((decide (p0.1 < p1.1)) == false)), .raw (.pointer (some ⟨b3_1, 0, none⟩))⟩ :: ⟨_, (true && ((decide (p0.1 < p1.1)) == false)), .raw (.int .i64 p1.1)⟩ :: ⟨_, (true && ((decide (p0.1 < p1.1)) == false)), .raw (.bool (p0.1 == p1.1))⟩ :: ⟨_, (true && ((decide (p0.1 < p1.1)) == false)), .raw (.bool (p0.1 == p1.1))⟩ :: ⟨_, ((true && ((decide (p0.1 < p1.1)) == false)) && ((p0.1 == p1.1) == true)), .raw (.pointer (some ⟨b2_0, 1, none⟩))⟩ :: ⟨_, ((true && ((decide (p0.1 < p1.1)) == false)) && ((p0.1 == p1.1) == true)), .raw (.int .i64 p0.2.1)⟩ :: ⟨_, ((true && ((decide (p0.1 < p1.1)) == false)) && ((p0.1 == p1.1) == true)), .raw (.pointer (some ⟨b3_1, 1, none⟩))⟩ :: ⟨_, ((true && ((decide (p0.1 < p1.1)) == false)) && ((p0.1 == p1.1) == true)), .raw (.int .i64 p1.2.1)⟩ :: ⟨_, ((true && ((decide (p0.1 < p1.1)) == false)) && ((p0.1 == p1.1) == true)), .raw (.bool (decide (p0.2.1 < p1.2.1)))⟩ :: ⟨_, (true && ((decide (p0.1 < p1.1)) == false)), .raw (.bool x3)⟩ :: ⟨_, true, .raw (.bool x5)⟩ :: ⟨_, true, .raw (.bool x5)⟩ :: []) (tl := []) (by kernel_rfl) (by kernel_rfl) (by kernel_rfl) ?_ ?_
 ·exact
   Obls.p (fun R' w' hw hs hd => of_fieldAddr_raw ((hs 2 rfl).trans h2) ff_63_0 Tryd.sizeOf3 (by decide) rfl) <|
   Obls.p (fun R' w' hw hs hd => by have a0 : R' 5 = (.pointer (some ⟨b2_0, 0, none⟩)) := hd.g 0 rfl; exact OpF.int (of_load_box ((hO.fr hw).ok 0 _ rfl).1 a0 fl_impl_DiagramNode_0 rfl Tryd.isAgg3 Tryd.sizeOf3)) <|
   Obls.p (fun R' w' hw hs hd => of_fieldAddr_raw ((hs 3 rfl).trans h3) ff_63_0 Tryd.sizeOf3 (by decide) rfl) <|
   Obls.p (fun R' w' hw hs hd => by have a0 : R' 7 = (.pointer (some ⟨b3_1, 0, none⟩)) := hd.g 0 rfl; exact OpF.int (of_load_box ((hO.fr hw).ok 1 _ rfl).1 a0 fl_impl_DiagramNode_0 rfl Tryd.isAgg3 Tryd.sizeOf3)) <|
   Obls.p (fun R' w' hw hs hd => by have a0 : R' 6 = .int .i64 p0.1 := hd.g 0 rfl; have a1 : R' 8 = .int .i64 p1.1 := hd.g 1 rfl; exact of_lss a0 a1) <|
   Obls.p (fun R' w' hw hs hd => by have a0 : R' 9 = .bool (decide (p0.1 < p1.1)) := hd.g 0 rfl; exact of_move a0) <|
   Obls.cons (Obl.grd 5 false _ _ _ rfl rfl rfl rfl rfl (by kernel_rfl) fun hg R' w' hw hs hd => by have a0 : R' 2 = (.pointer (some ⟨b2_0, 0, none⟩)) := (hs 2 rfl).trans h2; exact of_fieldAddr_raw a0 ff_63_0 Tryd.sizeOf3 (by decide) rfl) <|
   Obls.cons (Obl.grd 5 false _ _ _ rfl rfl rfl rfl rfl (by kernel_rfl) fun hg R' w' hw hs hd => by have a0 : R' 11 = (.pointer (some ⟨b2_0, 0, none⟩)) := hd 0 _ _ _ rfl rfl rfl rfl hg; exact OpF.int (of_load_box ((hO.fr hw).ok 0 _ rfl).1 a0 fl_impl_DiagramNode_0 rfl Tryd.isAgg3 Tryd.sizeOf3)) <|
   Obls.cons (Obl.grd 5 false _ _ _ rfl rfl rfl rfl rfl (by kernel_rfl) fun hg R' w' hw hs hd => by have a0 : R' 3 = (.pointer (some ⟨b3_1, 0, none⟩)) := (hs 3 rfl).trans h3; exact of_fieldAddr_raw a0 ff_63_0 Tryd.sizeOf3 (by decide) rfl) <|
   Obls.cons (Obl.grd 5 false _ _ _ rfl rfl rfl rfl rfl (by kernel_rfl) fun hg R' w' hw hs hd => by have a0 : R' 13 = (.pointer (some ⟨b3_1, 0, none⟩)) := hd 0 _ _ _ rfl rfl rfl rfl hg; exact OpF.int (of_load_box ((hO.fr hw).ok 1 _ rfl).1 a0 fl_impl_DiagramNode_0 rfl Tryd.isAgg3 Tryd.sizeOf3)) <|
   Obls.cons (Obl.grd 5 false _ _ _ rfl rfl rfl rfl rfl (by kernel_rfl) fun hg R' w' hw hs hd => by have a0 : R' 12 = .int .i64 p0.1 := hd 0 _ _ _ rfl rfl rfl rfl hg; have a1 : R' 14 = .int .i64 p1.1 := hd 1 _ _ _ rfl rfl rfl rfl hg; exact of_eql a0 a1) <|
   Obls.cons (Obl.grd 5 false _ _ _ rfl rfl rfl rfl rfl (by kernel_rfl) fun hg R' w' hw hs hd => by have a0 : R' 15 = .bool (p0.1 == p1.1) := hd 0 _ _ _ rfl rfl rfl rfl hg; exact of_move a0) <|
   Obls.cons (Obl.grd 11 true _ _ _ rfl rfl rfl rfl rfl (by kernel_rfl) fun hg R' w' hw hs hd => by have a0 : R' 2 = (.pointer (some ⟨b2_0, 0, none⟩)) := (hs 2 rfl).trans h2; exact of_fieldAddr_raw a0 ff_63_1 Tryd.sizeOf3 (by decide) rfl) <|
   Obls.cons (Obl.grd 11 true _ _ _ rfl rfl rfl rfl rfl (by kernel_rfl) fun hg R' w' hw hs hd => by have a0 : R' 17 = (.pointer (some ⟨b2_0, 1, none⟩)) := hd 0 _ _ _ rfl rfl rfl rfl hg; exact OpF.int (of_load_box ((hO.fr hw).ok 0 _ rfl).1 a0 fl_impl_DiagramNode_1 rfl Tryd.isAgg3 Tryd.sizeOf3)) <|
   Obls.cons (Obl.grd 11 true _ _ _ rfl rfl rfl rfl rfl (by kernel_rfl) fun hg R' w' hw hs hd => by have a0 : R' 3 = (.pointer (some ⟨b3_1, 0, none⟩)) := (hs 3 rfl).trans h3; exact of_fieldAddr_raw a0 ff_63_1 Tryd.sizeOf3 (by decide) rfl) <|
   Obls.cons (Obl.grd 11 true _ _ _ rfl rfl rfl rfl rfl (by kernel_rfl) fun hg R' w' hw hs hd => by have a0 : R' 19 = (.pointer (some ⟨b3_1, 1, none⟩)) := hd 0 _ _ _ rfl rfl rfl rfl hg; exact OpF.int (of_load_box ((hO.fr hw).ok 1 _ rfl).1 a0 fl_impl_DiagramNode_1 rfl Tryd.isAgg3 Tryd.sizeOf3)) <|
   Obls.cons (Obl.grd 11 true _ _ _ rfl rfl rfl rfl rfl (by kernel_rfl) fun hg R' w' hw hs hd => by have a0 : R' 18 = .int .i64 p0.2.1 := hd 0 _ _ _ rfl rfl rfl rfl hg; have a1 : R' 20 = .int .i64 p1.2.1 := hd 1 _ _ _ rfl rfl rfl rfl hg; exact of_lss a0 a1) <|
   Obls.cons (Obl.grd 5 false _ _ _ rfl rfl rfl rfl rfl (by kernel_rfl) fun hg R' w' hw hs hd => by have a0 : R' 16 = .bool (p0.1 == p1.1) := hd 0 _ _ _ rfl rfl rfl rfl hg; exact of_pick (p0.1 == p1.1) a0 (fun hc => by have a1 : R' 21 = .bool (decide (p0.2.1 < p1.2.1)) := hd 1 _ _ _ rfl rfl rfl rfl (g_and hg (beq_of hc)); show _ = Value.bool x3; rw [q4, hc]; exact a1) (fun hc => by show _ = Value.bool x3; rw [q4, hc]; exact rfl)) <|
   Obls.p (fun R' w' hw hs hd => by have a0 : R' 10 = .bool (decide (p0.1 < p1.1)) := hd.g 0 rfl; exact of_pick (decide (p0.1 < p1.1)) a0 (fun hc => by show _ = Value.bool x5; rw [q6, hc]; exact rfl) (fun hc => by have a2 : R' 22 = .bool x3 := hd 1 _ _ _ rfl rfl rfl rfl (g_and rfl (beq_of hc)); show _ = Value.bool x5; rw [q6, hc]; exact a2)) <|
   Obls.p (fun R' w' hw hs hd => by have a0 : R' 23 = .bool x5 := hd.g 0 rfl; exact of_assign a0) <|
   Obls.nil
 intro R w hw hs hF'
 have h4 : R 4 = .bool x5 := hF' 19 _ _ rfl rfl rfl
 replace hO := hO.fr hw
 replace hO : IniOK [] A w := hO.sub [] trivial
 replace hA := hA.fr hw.size
 replace hF := hF.trans hw
 clear hs hF' hw
 refine seqR_nil ?_
 refine HT.ret ?_
 obtain rfl := Option.some.inj hr
 exact ⟨.inr rfl, [R 4], ⟨rfl, trivial⟩, h4, hF⟩
def M_spec_IsValidDiagram_L1 (fu : Nat) (p0 : T_impl_Diagram) (y5 : Int) : Nat → Int → Option (Ex Bool Unit)
 | 0, _ => none
 | k + 1, y48 =>
  bif (decide (y48 < y5)) then (
   ck (inR y48 p0.2.length) <|
   bif ((gtD p0.2 y48) == (gtD p0.2 y5)) then (
    some (Ex.ret false)
   ) else (
    ck (i64B (y48 + (1 : Int))) <|
    M_spec_IsValidDiagram_L1 fu p0 y5 k (y48 + (1 : Int))
   )
  ) else (
   some (Ex.go ())
  )
def M_spec_IsValidDiagram_L0 (fu : Nat) (p0 : T_impl_Diagram) : Nat → Int → Option (Ex Bool Unit)
 | 0, _ => none
 | k + 1, y5 =>
  bif (decide (y5 < (p0.2.length : Int))) then (
   ck (inR y5 p0.2.length) <|
   cl true (M_spec_l1In fu ((gtD p0.2 y5).1) (0 : Int) (5 : Int)) fun x11 =>
   cl (true && ((!x11) == false)) (M_spec_l1In fu ((gtD p0.2 y5).2.1) (1 : Int) (1000 : Int)) fun x13 =>
   bd ((!x11) || (!x13)) fun x15 =>
   ck (!(true && (x15 == false)) || i64B (y5 + (1 : Int))) <|
   cl (true && (x15 == false)) (M_spec_l1In fu ((gtD p0.2 y5).2.2.1) (0 : Int) (y5 + (1 : Int))) fun x18 =>
   bd (x15 || (!x18)) fun x20 =>
   ck (!(true && (x20 == false)) || i64B (y5 + (1 : Int))) <|
   cl (true && (x20 == false)) (M_spec_l1In fu ((gtD p0.2 y5).2.2.2) (0 : Int) (y5 + (1 : Int))) fun x23 =>
   bd (x20 || (!x23)) fun x25 =>
   bd (x25 || (((gtD p0.2 y5).2.2.1) == ((gtD p0.2 y5).2.2.2))) fun x27 =>
   bif x27 then (
    some (Ex.ret false)
   ) else (
    ck (!(true && ((decide ((1 : Int) < ((gtD p0.2 y5).2.2.1))) == true)) || i64B (((gtD p0.2 y5).2.2.1) - (2 : Int))) <|
    ck (!(true && ((decide ((1 : Int) < ((gtD p0.2 y5).2.2.1))) == true)) || inR (((gtD p0.2 y5).2.2.1) - (2 : Int)) p0.2.length) <|
    cl (true && ((decide ((1 : Int) < ((gtD p0.2 y5).2.2.1))) == true)) (M_spec_l15Before fu (gtD p0.2 y5) (gtD p0.2 (((gtD p0.2 y5).2.2.1) - (2 : Int)))) fun x32 =>
    bd ((decide ((1 : Int) < ((gtD p0.2 y5).2.2.1))) && (!x32)) fun x34 =>
    ck (!((true && (x34 == false)) && ((decide ((1 : Int) < ((gtD p0.2 y5).2.2.2))) == true)) || i64B (((gtD p0.2 y5).2.2.2) - (2 : Int))) <|
    ck (!((true && (x34 == false)) && ((decide ((1 : Int) < ((gtD p0.2 y5).2.2.2))) == true)) || inR (((gtD p0.2 y5).2.2.2) - (2 : Int)) p0.2.length) <|
    cl ((true && (x34 == false)) && ((decide ((1 : Int) < ((gtD p0.2 y5).2.2.2))) == true)) (M_spec_l15Before fu (gtD p0.2 y5) (gtD p0.2 (((gtD p0.2 y5).2.2.2) - (2 : Int)))) fun x38 =>
    bd ((decide ((1 : Int) < ((gtD p0.2 y5).2.2.2))) && (!x38)) fun x40 =>
    bd (x34 || x40) fun x42 =>
    bif x42 then (
     some (Ex.ret false)
    ) else (
     cl true (M_spec_IsValidDiagram_L1 fu p0 y5 fu (0 : Int)) fun rl45 =>
     exM rl45 (fun r => some (Ex.ret r)) fun s47 =>
     ck (i64B (y5 + (1 : Int))) <|
     M_spec_IsValidDiagram_L0 fu p0 k (y5 + (1 : Int))
    )
   )
  ) else (
   some (Ex.go ())
  )
def M_spec_IsValidDiagram (fu : Nat) (p0 : T_impl_Diagram) : Option Bool :=
 cl true (M_spec_IsValidDiagram_L0 fu p0 fu (0 : Int)) fun rl2 =>
 exM rl2 (fun r => some r) fun s4 =>
 ck (i64B ((p0.2.length : Int) + (1 : Int))) <|
 cl true (M_spec_l1In fu p0.1 (0 : Int) ((p0.2.length : Int) + (1 : Int))) fun x55 =>
 bd (x55 && (decide ((p0.2.length : Int) ≤ (200 : Int)))) fun x57 =>
 some x57
theorem M_spec_IsValidDiagram_ok {fu : Nat} {A0 : Av} {p0 : T_impl_Diagram} {r : Bool} (hr : M_spec_IsValidDiagram fu p0 = some r) {w : World} {v0 : Value} (hA : AvOK A0 w) (h0 : Rep E_impl_Diagram A0 w v0 p0) :
  Calls Tryd.prog 37 #[v0] w fun e w' => ∃ v, e = .returned v ∧ (v = .bool r ∧ Fr w w') := by
 unfold M_spec_IsValidDiagram at hr
 obtain ⟨w0, hw0⟩ : ∃ w0, w0 = w := ⟨_, rfl⟩
 have hF : Fr w0 w := hw0 ▸ Fr.refl _
 have hA0 : ∀ b o, A0 b o → b < w0.heap.size := fun b o h => hw0 ▸ hA b o h
 have hA00 : AvOK A0 w0 := hA0
 rw [show Fr w = Fr w0 from hw0 ▸ rfl]
 clear hw0
 obtain ⟨A, hAe⟩ : ∃ A, A = A0 := ⟨_, rfl⟩
 have hAA : ∀ b o, A0 b o → A b o := fun b o h => hAe ▸ h
 replace hA : AvOK A w := hAe ▸ hA
 have hO : IniOK [] A w := IniOK.nil
 refine calls_of_HT2 [.tmp 2] Tryd.func37 Tryd.ntmps37 (by decide) rfl rfl (Nat.le_of_ble_eq_true rfl) ?_
 intro R hR
 have f_v0 : Rep E_impl_Diagram A w v0 p0 := hAe ▸ h0
 replace h0 : R 0 = v0 := hR 0 _ rfl
 clear hR hAe
 refine HT.seq ?_
 refine HT.textR [] (⟨_, true, [], some (.box w0.heap.size 34 E_impl_Diagram p0), true, fun A => .any⟩ :: ⟨_, true, [], none, true, fun A => .raw (.bool false)⟩ :: []) (by kernel_rfl) (by kernel_rfl) (Wf.mk' (by kernel_rfl) (UAll.cons ust_any (UAll.cons ust_raw (UAll.nil))) (by kernel_rfl) (by kernel_rfl)) hO hA ?_ ?_
 ·exact
   OblsR.cons (OblR.made _ rfl rfl rfl rfl fun A' R' w' ho hd => by have a0 : R' 0 = v0 := (ho.old 0 rfl).trans h0; have ra0 := (f_v0.stp ho.stp).eq a0; exact made_box ra0 (Nat.le_trans hF.size ho.ch.size)) <|
   OblsR.p (fun A' R' w' ho hd => of_assign rfl) <|
   OblsR.nil
 intro done ρ σ A R w hdn hI
 obtain ⟨b1_0, e_b1_0⟩ := hI.boxv hdn 0 rfl rfl
 have h1 : R 1 = (.pointer (some ⟨b1_0, 0, none⟩)) := (hI.opvR hdn 0 0 rfl rfl rfl rfl rfl).symm.trans e_b1_0
 replace hAA := hI.low' hAA hA0 (hO.ge (trivial))
 replace hF : Fr w0 w := hF.tr hI.ch (hO.ge (trivial))
 replace hO : IniOK [ob (.pointer (some ⟨b1_0, 0, none⟩)) (.box w0.heap.size 34 E_impl_Diagram p0)] A w := hI.left hdn [(0, ob (.pointer (some ⟨b1_0, 0, none⟩)) (.box w0.heap.size 34 E_impl_Diagram p0))] ⟨rfl, rfl, e_b1_0, rfl, rfl, trivial⟩
 replace hA := hI.avok
 clear hI
 refine HT.seq ?_
 refine HT.seq ?_
 refine HT.text (l := ⟨_, true, .raw (.int .i64 (0 : Int))⟩ :: []) (tl := []) (by kernel_rfl) (by kernel_rfl) (by kernel_rfl) ?_ ?_
 ·exact
   Obls.p (fun R' w' hw hs hd => of_assign rfl) <|
   Obls.nil
 intro R w hw hs hF'
 replace h1 := (hs 1 rfl).trans h1
 have h3 : R 3 = .int .i64 (0 : Int) := hF' 0 _ _ rfl rfl rfl
 replace hO := hO.fr hw
 replace hA := hA.fr hw.size
 replace hF := hF.trans hw
 clear hs hF' hw
 refine seqR_nil ?_
 obtain ⟨rl2, q3, hr⟩ := cl_some hr
 replace q3 := q3 rfl
 refine HT.cut0 (fun R w => ∃ A : Av, ∃ (s4 : Unit), rl2 = Ex.go s4 ∧ AvOK A w ∧ Fr w0 w ∧ (∀ b o, A0 b o → A b o) ∧ IniOK [ob (.pointer (some ⟨b1_0, 0, none⟩)) (.box w0.heap.size 34 E_impl_Diagram p0)] A w ∧ R 1 = (.pointer (some ⟨b1_0, 0, none⟩))) ?_ ?_
 ·refine HT.block ?_
  refine HT.loop (fun k R w => ∃ A : Av, ∃ (y5 : Int), M_spec_IsValidDiagram_L0 fu p0 k y5 = some rl2 ∧ AvOK A w ∧ Fr w0 w ∧ (∀ b o, A0 b o → A b o) ∧ IniOK [ob (.pointer (some ⟨b1_0, 0, none⟩)) (.box w0.heap.size 34 E_impl_Diagram p0)] A w ∧ R 1 = (.pointer (some ⟨b1_0, 0, none⟩)) ∧ R 3 = .int .i64 y5) fu ⟨_, _, q3, hA, hF, hAA, hO, h1, h3⟩ ?_
  have hr0 := hr; clear hr q3
  rintro k R w ⟨A, y5, hr, hA, hF, hAA, hO, h1, h3⟩
  rcases k with _ | k
  ·cases (show none = some _ from hr)
  rw [M_spec_IsValidDiagram_L0] at hr
  refine HT.seq ?_
  refine HT.seq ?_
  refine HT.text (l := ⟨_, true, .raw (.int .i64 y5)⟩ :: ⟨_, true, .raw (.pointer (some ⟨b1_0, 1, none⟩))⟩ :: ⟨_, true, .rep (eSl E_impl_DiagramNode) A p0.2⟩ :: ⟨_, true, .raw (.int .i64 (p0.2.length : Int))⟩ :: ⟨_, true, .raw (.bool (decide (y5 < (p0.2.length : Int))))⟩ :: []) (tl := []) (by kernel_rfl) (by kernel_rfl) (by kernel_rfl) ?_ ?_
  ·exact
    Obls.p (fun R' w' hw hs hd => of_move ((hs 3 rfl).trans h3)) <|
    Obls.p (fun R' w' hw hs hd => of_fieldAddr_raw ((hs 1 rfl).trans h1) ff_34_1 Tryd.sizeOf32 (by decide) rfl) <|
    Obls.p (fun R' w' hw hs hd => by have a0 : R' 7 = (.pointer (some ⟨b1_0, 1, none⟩)) := hd.g 0 rfl; exact (of_load_box ((hO.fr hw).ok 0 _ rfl).1 a0 fl_impl_Diagram_1 rfl Tryd.isAgg32 Tryd.sizeOf32)) <|
    Obls.p (fun R' w' hw hs hd => by have a0 : Rep (eSl E_impl_DiagramNode) A w' (R' 8) p0.2 := hd.g 0 rfl; exact of_len_sl (aT := #[]) a0 Tryd.underlying32) <|
    Obls.p (fun R' w' hw hs hd => by have a0 : R' 6 = .int .i64 y5 := hd.g 0 rfl; have a1 : R' 9 = .int .i64 (p0.2.length : Int) := hd.g 1 rfl; exact of_lss a0 a1) <|
    Obls.nil
  intro R w hw hs hF'
  replace h1 := (hs 1 rfl).trans h1
  replace h3 := (hs 3 rfl).trans h3
  have h10 : R 10 = .bool (decide (y5 < (p0.2.length : Int))) := hF' 4 _ _ rfl rfl rfl
  replace hO := hO.fr hw
  replace hA := hA.fr hw.size
  replace hF := hF.trans hw
  clear hs hF' hw
  refine seqR_nil ?_
  refine HT.cond (decide (y5 < (p0.2.length : Int))) h10 (fun c6 => ?_) (fun c6 => ?_)
  ·have hr := cnd_t c6 hr
   refine HT.skip ?_
   refine HT.seq ?_
   refine HT.block ?_
   refine HT.seq ?_
   obtain ⟨e7, hr⟩ := ck_some hr
   refine HT.textR [ob (.pointer (some ⟨b1_0, 0, none⟩)) (.box w0.heap.size 34 E_impl_Diagram p0)] (⟨_, true, [], none, true, fun A => .raw (.pointer (some ⟨b1_0, 1, none⟩))⟩ :: ⟨_, true, [], none, true, fun A => .rep (eSl E_impl_DiagramNode) A p0.2⟩ :: ⟨_, true, [], none, true, fun A => .raw (.int .i64 y5)⟩ :: ⟨_, true, [], none, true, fun A => .qtr E_impl_DiagramNode A (gtD p0.2 y5)⟩ :: ⟨_, true, [], none, true, fun A => .rep E_impl_DiagramNode A (gtD p0.2 y5)⟩ :: ⟨_, true, [], some (.box w0.heap.size 63 E_impl_DiagramNode ((0 : Int), ((0 : Int), ((0 : Int), (0 : Int))))), true, fun A => .any⟩ :: ⟨_, true, [6], some (.box w0.heap.size 63 E_impl_DiagramNode (gtD p0.2 y5)), false, fun A => .any⟩ :: []) (by kernel_rfl) (by kernel_rfl) (Wf.mk' (by kernel_rfl) (UAll.cons ust_raw (UAll.cons ust_rep (UAll.cons ust_raw (UAll.cons ust_qtr (UAll.cons ust_rep (UAll.cons ust_any (UAll.cons ust_any (UAll.nil)))))))) (by kernel_rfl) (by kernel_rfl)) hO hA ?_ ?_
   ·exact
     OblsR.p (fun A' R' w' ho hd => of_fieldAddr_raw ((ho.old 1 rfl).trans h1) ff_34_1 Tryd.sizeOf32 (by decide) rfl) <|
     OblsR.p (fun A' R' w' ho hd => by have a0 : R' 13 = (.pointer (some ⟨b1_0, 1, none⟩)) := hd.g 0 rfl; exact (of_load_box (ho.rd 0 _ rfl rfl) a0 fl_impl_Diagram_1 rfl Tryd.isAgg32 Tryd.sizeOf32)) <|
     OblsR.p (fun A' R' w' ho hd => of_move ((ho.old 3 rfl).trans h3)) <|
     OblsR.p (fun A' R' w' ho hd => by have a0 : Rep (eSl E_impl_DiagramNode) A' w' (R' 14) p0.2 := hd.g 0 rfl; have a1 : R' 15 = .int .i64 y5 := hd.g 1 rfl; exact of_indexAddr a0 a1 Tryd.underlying32 Tryd.sizeOf63 e7) <|
     OblsR.p (fun A' R' w' ho hd => by have a0 : QRep E_impl_DiagramNode A' w' (R' 16) (gtD p0.2 y5) := hd.g 0 rfl; exact (of_load a0.ptr Tryd.isAgg63 Tryd.sizeOf63)) <|
     OblsR.cons (OblR.made _ rfl rfl rfl rfl fun A' R' w' ho hd => by exact made_alloc Tryd.zeroValue63 (fun A w => rep_pr rep1_int (rep_pr rep1_int (rep_pr rep1_int rep1_int))) (Nat.le_trans hF.size ho.ch.size)) <|
     OblsR.cons (OblR.took 6 _ _ rfl rfl rfl rfl rfl fun A' R' w' ho hd u hok hav hin hop hds => by have a1 : Rep E_impl_DiagramNode A' w' (R' 17) (gtD p0.2 y5) := hd.g 1 rfl; obtain ⟨b, hb, hB', hbx⟩ := hok; have hop' := hop _ _ rfl rfl rfl rfl; exact took_store a1 (hop'.symm.trans hb) hb ⟨b, hb, hB', hbx⟩ hav (FldS.id _) Tryd.sizeOf63 rfl) <|
     OblsR.nil
   intro done ρ σ A R w hdn hI
   replace h1 : R 1 = (.pointer (some ⟨b1_0, 0, none⟩)) := (hI.reg rfl).trans h1
   replace h3 : R 3 = .int .i64 y5 := (hI.reg rfl).trans h3
   have z8 := hI.inivR 0 rfl
   obtain ⟨b4_8, e_b4_8⟩ := hI.boxv hdn 7 rfl rfl
   have z10 := (hI.opnR hdn 7 6 rfl rfl rfl rfl rfl).symm.trans e_b4_8
   have h4 : R 4 = (.pointer (some ⟨b4_8, 0, none⟩)) := (hI.opvR hdn 6 5 rfl rfl rfl rfl rfl).symm.trans z10
   replace hAA := hI.low' hAA hA0 (hO.ge (⟨rfl, trivial⟩))
   replace hF : Fr w0 w := hF.tr hI.ch (hO.ge (⟨rfl, trivial⟩))
   replace hO : IniOK [ob (.pointer (some ⟨b1_0, 0, none⟩)) (.box w0.heap.size 34 E_impl_Diagram p0), ob (.pointer (some ⟨b4_8, 0, none⟩)) (.box w0.heap.size 63 E_impl_DiagramNode (gtD p0.2 y5))] A w := hI.left hdn [(0, ob (.pointer (some ⟨b1_0, 0, none⟩)) (.box w0.heap.size 34 E_impl_Diagram p0)), (7, ob (.pointer (some ⟨b4_8, 0, none⟩)) (.box w0.heap.size 63 E_impl_DiagramNode (gtD p0.2 y5)))] ⟨rfl, rfl, z8, rfl, rfl, ⟨rfl, rfl, e_b4_8, rfl, rfl, trivial⟩⟩
   replace hA := hI.avok
   clear hI
   refine HT.seq ?_
   refine HT.seq ?_
   obtain ⟨x11, q12, hr⟩ := cl_some hr
   obtain ⟨x13, q14, hr⟩ := cl_some hr
   obtain ⟨x15, q16, hr⟩ := bd_some hr
   obtain ⟨e17, hr⟩ := ck_some hr
   obtain ⟨x18, q19, hr⟩ := cl_some hr
   obtain ⟨x20, q21, hr⟩ := bd_some hr
   obtain ⟨e22, hr⟩ := ck_some hr
   obtain ⟨x23, q24, hr⟩ := cl_some hr
   obtain ⟨x25, q26, hr⟩ := bd_some hr
   obtain ⟨x27, q28, hr⟩ := bd_some hr
   refine HT.text (l := ⟨_, true, .raw (.pointer (some ⟨b4_8, 0, none⟩))⟩ :: ⟨_, true, .raw (.int .i64 ((gtD p0.2 y5).1))⟩ :: ⟨_, true, .raw (.bool x11)⟩ :: ⟨_, true, .raw (.bool (!x11))⟩ :: ⟨_, true, .raw (.bool (!x11))⟩ :: ⟨_, (true && ((!x11) == false)), .raw (.pointer (some ⟨b4_8, 1, none⟩))⟩ :: ⟨_, (true && ((!x11) == false)), .raw (.int .i64 ((gtD p0.2 y5).2.1))⟩ :: ⟨_, (true && ((!x11) == false)), .raw (.bool x13)⟩ :: ⟨_, (true && ((!x11) == false)), .raw (.bool (!x13))⟩ :: ⟨_, true, .raw (.bool x15)⟩ :: ⟨_, true, .raw (.bool x15)⟩ :: ⟨_, (true && (x15 == false)), .raw (.pointer (some ⟨b4_8, 2, none⟩))⟩ :: ⟨_, (true && (x15 == false)), .raw (.int .i64 ((gtD p0.2 y5).2.2.1))⟩ :: ⟨_, (true && (x15 == false)), .raw (.int .i64 y5)⟩ :: ⟨_, (true && (x15 == false)), .raw (.int .i64 (y5 + (1 : Int)))⟩ :: ⟨_, (true && (x15 == false)), .raw (.bool x18)⟩ :: ⟨_, (true && (x15 == false)), .raw (.bool (!x18))⟩ :: ⟨_, true, .raw (.bool x20)⟩ :: ⟨_, true, .raw (.bool x20)⟩ :: ⟨_, (true && (x20 == false)), .raw (.pointer (some ⟨b4_8, 3, none⟩))⟩ :: ⟨_, (true && (x20 == false)), .raw (.int .i64 ((gtD p0.2 y5).2.2.2))⟩ :: ⟨_, (true && (x20 == false)), .raw (.int .i64 y5)⟩ :: ⟨_, (true && (x20 == false)), .raw (.int .i64 (y5 + (1 : Int)))⟩ :: ⟨_, (true && (x20 == false)), .raw (.bool x23)⟩ :: ⟨_, (true && (x20 == false)), .raw (.bool (!x23))⟩ :: ⟨_, true, .raw (.bool x25)⟩ :: ⟨_, true, .raw (.bool x25)⟩ :: ⟨_, (true && (x25 == false)), .raw (.pointer (some ⟨b4_8, 2, none⟩))⟩ :: ⟨_, (true && (x25 == false)), .raw (.int .i64 ((gtD p0.2 y5).2.2.1))⟩ :: ⟨_, (true && (x25 == false)), .raw (.pointer (some ⟨b4_8, 3, none⟩))⟩ :: ⟨_, (true && (x25 == false)), .raw (.int .i64 ((gtD p0.2 y5).2.2.2))⟩ :: ⟨_, (true && (x25 == false)), .raw (.bool (((gtD p0.2 y5).2.2.1) == ((gtD p0.2 y5).2.2.2)))⟩ :: ⟨_, true, .raw (.bool x27)⟩ :: []) (tl := []) (by kernel_rfl) (by kernel_rfl) (by kernel_rfl) ?_ ?_
   ·exact
     Obls.p (fun R' w' hw hs hd => of_fieldAddr_raw ((hs 4 rfl).trans h4) ff_63_0 Tryd.sizeOf3 (by decide) rfl) <|
     Obls.p (fun R' w' hw hs hd => by have a0 : R' 18 = (.pointer (some ⟨b4_8, 0, none⟩)) := hd.g 0 rfl; exact OpF.int (of_load_box ((hO.fr hw).ok 1 _ rfl).1 a0 fl_impl_DiagramNode_0 rfl Tryd.isAgg3 Tryd.sizeOf3)) <|
     Obls.p (fun R' w' hw hs hd => by have a0 : R' 19 = .int .i64 ((gtD p0.2 y5).1) := hd.g 0 rfl; exact of_call Tryd.call56 (M_spec_l1In_ok (q12 rfl) (hA.fr hw.size) a0 rfl rfl)) <|
     Obls.p (fun R' w' hw hs hd => by have a0 : R' 20 = .bool x11 := hd.g 0 rfl; exact of_not a0) <|
     Obls.p (fun R' w' hw hs hd => by have a0 : R' 21 = .bool (!x11) := hd.g 0 rfl; exact of_move a0) <|
     Obls.cons (Obl.grd 4 false _ _ _ rfl rfl rfl rfl rfl (by kernel_rfl) fun hg R' w' hw hs hd => by have a0 : R' 4 = (.pointer (some ⟨b4_8, 0, none⟩)) := (hs 4 rfl).trans h4; exact of_fieldAddr_raw a0 ff_63_1 Tryd.sizeOf3 (by decide) rfl) <|
     Obls.cons (Obl.grd 4 false _ _ _ rfl rfl rfl rfl rfl (by kernel_rfl) fun hg R' w' hw hs hd => by have a0 : R' 23 = (.pointer (some ⟨b4_8, 1, none⟩)) := hd 0 _ _ _ rfl rfl rfl rfl hg; exact OpF.int (of_load_box ((hO.fr hw).ok 1 _ rfl).1 a0 fl_impl_DiagramNode_1 rfl Tryd.isAgg3 Tryd.sizeOf3)) <|
     Obls.cons (Obl.grd 4 false _ _ _ rfl rfl rfl rfl rfl (by kernel_rfl) fun hg R' w' hw hs hd => by have a0 : R' 24 = .int .i64 ((gtD p0.2 y5).2.1) := hd 0 _ _ _ rfl rfl rfl rfl hg; exact of_call Tryd.call56 (M_spec_l1In_ok (q14 hg) (hA.fr hw.size) a0 rfl rfl)) <|
     Obls.cons (Obl.grd 4 false _ _ _ rfl rfl rfl rfl rfl (by kernel_rfl) fun hg R' w' hw hs hd => by have a0 : R' 25 = .bool x13 := hd 0 _ _ _ rfl rfl rfl rfl hg; exact of_not a0) <|
     Obls.p (fun R' w' hw hs hd => by have a0 : R' 22 = .bool (!x11) := hd.g 0 rfl; exact of_pick (!x11) a0 (fun hc => by show _ = Value.bool x15; rw [q16, hc]; exact rfl) (fun hc => by have a2 : R' 26 = .bool (!x13) := hd 1 _ _ _ rfl rfl rfl rfl (g_and rfl (beq_of hc)); show _ = Value.bool x15; rw [q16, hc]; exact a2)) <|
     Obls.p (fun R' w' hw hs hd => by have a0 : R' 27 = .bool x15 := hd.g 0 rfl; exact of_move a0) <|
     Obls.cons (Obl.grd 10 false _ _ _ rfl rfl rfl rfl rfl (by kernel_rfl) fun hg R' w' hw hs hd => by have a0 : R' 4 = (.pointer (some ⟨b4_8, 0, none⟩)) := (hs 4 rfl).trans h4; exact of_fieldAddr_raw a0 ff_63_2 Tryd.sizeOf3 (by decide) rfl) <|
     Obls.cons (Obl.grd 10 false _ _ _ rfl rfl rfl rfl rfl (by kernel_rfl) fun hg R' w' hw hs hd => by have a0 : R' 29 = (.pointer (some ⟨b4_8, 2, none⟩)) := hd 0 _ _ _ rfl rfl rfl rfl hg; exact OpF.int (of_load_box ((hO.fr hw).ok 1 _ rfl).1 a0 fl_impl_DiagramNode_2 rfl Tryd.isAgg3 Tryd.sizeOf3)) <|
     Obls.cons (Obl.grd 10 false _ _ _ rfl rfl rfl rfl rfl (by kernel_rfl) fun hg R' w' hw hs hd => by have a0 : R' 3 = .int .i64 y5 := (hs 3 rfl).trans h3; exact of_move a0) <|
     Obls.cons (Obl.grd 10 false _ _ _ rfl rfl rfl rfl rfl (by kernel_rfl) fun hg R' w' hw hs hd => by have a0 : R' 31 = .int .i64 y5 := hd 0 _ _ _ rfl rfl rfl rfl hg; exact of_add a0 rfl (gd e17 hg)) <|
     Obls.cons (Obl.grd 10 false _ _ _ rfl rfl rfl rfl rfl (by kernel_rfl) fun hg R' w' hw hs hd => by have a0 : R' 30 = .int .i64 ((gtD p0.2 y5).2.2.1) := hd 0 _ _ _ rfl rfl rfl rfl hg; have a2 : R' 32 = .int .i64 (y5 + (1 : Int)) := hd 1 _ _ _ rfl rfl rfl rfl hg; exact of_call Tryd.call56 (M_spec_l1In_ok (q19 hg) (hA.fr hw.size) a0 rfl a2)) <|
     Obls.cons (Obl.grd 10 false _ _ _ rfl rfl rfl rfl rfl (by kernel_rfl) fun hg R' w' hw hs hd => by have a0 : R' 33 = .bool x18 := hd 0 _ _ _ rfl rfl rfl rfl hg; exact of_not a0) <|
     Obls.p (fun R' w' hw hs hd => by have a0 : R' 28 = .bool x15 := hd.g 0 rfl; exact of_pick x15 a0 (fun hc => by show _ = Value.bool x20; rw [q21, hc]; exact rfl) (fun hc => by have a2 : R' 34 = .bool (!x18) := hd 1 _ _ _ rfl rfl rfl rfl (g_and rfl (beq_of hc)); show _ = Value.bool x20; rw [q21, hc]; exact a2)) <|
     Obls.p (fun R' w' hw hs hd => by have a0 : R' 35 = .bool x20 := hd.g 0 rfl; exact of_move a0) <|
     Obls.cons (Obl.grd 18 false _ _ _ rfl rfl rfl rfl rfl (by kernel_rfl) fun hg R' w' hw hs hd => by have a0 : R' 4 = (.pointer (some ⟨b4_8, 0, none⟩)) := (hs 4 rfl).trans h4; exact of_fieldAddr_raw a0 ff_63_3 Tryd.sizeOf3 (by decide) rfl) <|
     Obls.cons (Obl.grd 18 false _ _ _ rfl rfl rfl rfl rfl (by kernel_rfl) fun hg R' w' hw hs hd => by have a0 : R' 37 = (.pointer (some ⟨b4_8, 3, none⟩)) := hd 0 _ _ _ rfl rfl rfl rfl hg; exact OpF.int (of_load_box ((hO.fr hw).ok 1 _ rfl).1 a0 fl_impl_DiagramNode_3 rfl Tryd.isAgg3 Tryd.sizeOf3)) <|
     Obls.cons (Obl.grd 18 false _ _ _ rfl rfl rfl rfl rfl (by kernel_rfl) fun hg R' w' hw hs hd => by have a0 : R' 3 = .int .i64 y5 := (hs 3 rfl).trans h3; exact of_move a0) <|
     Obls.cons (Obl.grd 18 false _ _ _ rfl rfl rfl rfl rfl (by kernel_rfl) fun hg R' w' hw hs hd => by have a0 : R' 39 = .int .i64 y5 := hd 0 _ _ _ rfl rfl rfl rfl hg; exact of_add a0 rfl (gd e22 hg)) <|
     Obls.cons (Obl.grd 18 false _ _ _ rfl rfl rfl rfl rfl (by kernel_rfl) fun hg R' w' hw hs hd => by have a0 : R' 38 = .int .i64 ((gtD p0.2 y5).2.2.2) := hd 0 _ _ _ rfl rfl rfl rfl hg; have a2 : R' 40 = .int .i64 (y5 + (1 : Int)) := hd 1 _ _ _ rfl rfl rfl rfl hg; exact of_call Tryd.call56 (M_spec_l1In_ok (q24 hg) (hA.fr hw.size) a0 rfl a2)) <|
     Obls.cons (Obl.grd 18 false _ _ _ rfl rfl rfl rfl rfl (by kernel_rfl) fun hg R' w' hw hs hd => by have a0 : R' 41 = .bool x23 := hd 0 _ _ _ rfl rfl rfl rfl hg; exact of_not a0) <|
     Obls.p (fun R' w' hw hs hd => by have a0 : R' 36 = .bool x20 := hd.g 0 rfl; exact of_pick x20 a0 (fun hc => by show _ = Value.bool x25; rw [q26, hc]; exact rfl) (fun hc => by have a2 : R' 42 = .bool (!x23) := hd 1 _ _ _ rfl rfl rfl rfl (g_and rfl (beq_of hc)); show _ = Value.bool x25; rw [q26, hc]; exact a2)) <|
     Obls.p (fun R' w' hw hs hd => by have a0 : R' 43 = .bool x25 := hd.g 0 rfl; exact of_move a0) <|
     Obls.cons (Obl.grd 26 false _ _ _ rfl rfl rfl rfl rfl (by kernel_rfl) fun hg R' w' hw hs hd => by have a0 : R' 4 = (.pointer (some ⟨b4_8, 0, none⟩)) := (hs 4 rfl).trans h4; exact of_fieldAddr_raw a0 ff_63_2 Tryd.sizeOf3 (by decide) rfl) <|
     Obls.cons (Obl.grd 26 false _ _ _ rfl rfl rfl rfl rfl (by kernel_rfl) fun hg R' w' hw hs hd => by have a0 : R' 45 = (.pointer (some ⟨b4_8, 2, none⟩)) := hd 0 _ _ _ rfl rfl rfl rfl hg; exact OpF.int (of_load_box ((hO.fr hw).ok 1 _ rfl).1 a0 fl_impl_DiagramNode_2 rfl Tryd.isAgg3 Tryd.sizeOf3)) <|
     Obls.cons (Obl.grd 26 false _ _ _ rfl rfl rfl rfl rfl (by kernel_rfl) fun hg R' w' hw hs hd => by have a0 : R' 4 = (.pointer (some ⟨b4_8, 0, none⟩)) := (hs 4 rfl).trans h4; exact of_fieldAddr_raw a0 ff_63_3 Tryd.sizeOf3 (by decide) rfl) <|
     Obls.cons (Obl.grd 26 false _ _ _ rfl rfl rfl rfl rfl (by kernel_rfl) fun hg R' w' hw hs hd => by have a0 : R' 47 = (.pointer (some ⟨b4_8, 3, none⟩)) := hd 0 _ _ _ rfl rfl rfl rfl hg; exact OpF.int (of_load_box ((hO.fr hw).ok 1 _ rfl).1 a0 fl_impl_DiagramNode_3 rfl Tryd.isAgg3 Tryd.sizeOf3)) <|
     Obls.cons (Obl.grd 26 false _ _ _ rfl rfl rfl rfl rfl (by kernel_rfl) fun hg R' w' hw hs hd => by have a0 : R' 46 = .int .i64 ((gtD p0.2 y5).2.2.1) := hd 0 _ _ _ rfl rfl rfl rfl hg; have a1 : R' 48 = .int .i64 ((gtD p0.2 y5).2.2.2) := hd 1 _ _ _ rfl rfl rfl rfl hg; exact of_eql a0 a1) <|
     Obls.p (fun R' w' hw hs hd => by have a0 : R' 44 = .bool x25 := hd.g 0 rfl; exact of_pick x25 a0 (fun hc => by show _ = Value.bool x27; rw [q28, hc]; exact rfl) (fun hc => by have a2 : R' 49 = .bool (((gtD p0.2 y5).2.2.1) == ((gtD p0.2 y5).2.2.2)) := hd 1 _ _ _ rfl rfl rfl rfl (g_and rfl (beq_of hc)); show _ = Value.bool x27; rw [q28, hc]; exact a2)) <|
     Obls.nil
   intro R w hw hs hF'
   replace h1 := (hs 1 rfl).trans h1
   replace h3 := (hs 3 rfl).trans h3
   replace h4 := (hs 4 rfl).trans h4
   have h50 : R 50 = .bool x27 := hF' 32 _ _ rfl rfl rfl
   replace hO := hO.fr hw
   replace hA := hA.fr hw.size
   replace hF := hF.trans hw
   clear hs hF' hw
   refine seqR_nil ?_
   refine HT.cond x27 h50 (fun c29 => ?_) (fun c29 => ?_)
   ·have hr := cnd_t c29 hr
    refine HT.seq ?_
    refine HT.text (l := ⟨_, true, .raw (.bool false)⟩ :: []) (tl := []) (by kernel_rfl) (by kernel_rfl) (by kernel_rfl) ?_ ?_
    ·exact
      Obls.p (fun R' w' hw hs hd => of_assign rfl) <|
      Obls.nil
    intro R w hw hs hF'
    have h2 : R 2 = .bool false := hF' 0 _ _ rfl rfl rfl
    replace hO := hO.fr hw
    replace hO : IniOK [] A w := hO.sub [] trivial
    replace hA := hA.fr hw.size
    replace hF := hF.trans hw
    clear hs hF' hw
    refine seqR_nil ?_
    refine HT.ret ?_
    obtain rfl := Option.some.inj hr
    have hr := hr0
    replace hr : some _ = some _ := hr
    obtain rfl := Option.some.inj hr
    exact ⟨.inr rfl, [R 2], ⟨rfl, trivial⟩, h2, hF⟩
   ·have hr := cnd_f c29 hr
    refine HT.skip ?_
    refine HT.seq ?_
    refine HT.seq ?_
    obtain ⟨e30, hr⟩ := ck_some hr
    obtain ⟨e31, hr⟩ := ck_some hr
    obtain ⟨x32, q33, hr⟩ := cl_some hr
    obtain ⟨x34, q35, hr⟩ := bd_some hr
    obtain ⟨e36, hr⟩ := ck_some hr
    obtain ⟨e37, hr⟩ := ck_some hr
    obtain ⟨x38, q39, hr⟩ := cl_some hr
    obtain ⟨x40, q41, hr⟩ := bd_some hr
    obtain ⟨x42, q43, hr⟩ := bd_some hr
    refine HT.draw (by kernel_rfl) (l := ⟨_, true, .raw (.pointer (some ⟨b4_8, 2, none⟩))⟩ :: ⟨_, true, .raw (.int .i64 ((gtD p0.2 y5).2.2.1))⟩ :: ⟨_, true, .raw (.bool (decide ((1 : Int) < ((gtD p0.2 y5).2.2.1))))⟩ :: ⟨_, true, .raw (.bool (decide ((1 : Int) < ((gtD p0.2 y5).2.2.1))))⟩ :: ⟨_, (true && ((decide ((1 : Int) < ((gtD p0.2 y5).2.2.1))) == true)), .rep E_impl_DiagramNode A (gtD p0.2 y5)⟩ :: ⟨_, (true && ((decide ((1 : Int) < ((gtD p0.2 y5).2.2.1))) == true)), .raw (.pointer (some ⟨b1_0, 1, none⟩))⟩ :: ⟨_, (true && ((decide ((1 : Int) < ((gtD p0.2 y5).2.2.1))) == true)), .rep (eSl E_impl_DiagramNode) A p0.2⟩ :: ⟨_, (true && ((decide ((1 : Int) < ((gtD p0.2 y5).2.2.1))) == true)), .raw (.pointer (some ⟨b4_8, 2, none⟩))⟩ :: ⟨_, (true && ((decide ((1 : Int) < ((gtD p0.2 y5).2.2.1))) == true)), .raw (.int .i64 ((gtD p0.2 y5).2.2.1))⟩ :: ⟨_, (true && ((decide ((1 : Int) < ((gtD p0.2 y5).2.2.1))) == true)), .raw (.int .i64 (((gtD p0.2 y5).2.2.1) - (2 : Int)))⟩ :: ⟨_, (true && ((decide ((1 : Int) < ((gtD p0.2 y5).2.2.1))) == true)), .qtr E_impl_DiagramNode A (gtD p0.2 (((gtD p0.2 y5).2.2.1) - (2 : Int)))⟩ :: ⟨_, (true && ((decide ((1 : Int) < ((gtD p0.2 y5).2.2.1))) == true)), .rep E_impl_DiagramNode A (gtD p0.2 (((gtD p0.2 y5).2.2.1) - (2 : Int)))⟩ :: ⟨_, (true && ((decide ((1 : Int) < ((gtD p0.2 y5).2.2.1))) == true)), .raw (.bool x32)⟩ :: ⟨_, (true && ((decide ((1 : Int) < ((gtD p0.2 y5).2.2.1))) == true)), .raw (.bool (!x32))⟩ :: ⟨_, true, .raw (.bool x34)⟩ :: ⟨_, true, .raw (.bool x34)⟩ :: ⟨_, (true && (x34 == false)), .raw (.pointer (some ⟨b4_8, 3, none⟩))⟩ :: ⟨_, (true && (x34 == false)), .raw (.int .i64 ((gtD p0.2 y5).2.2.2))⟩ :: ⟨_, (true && (x34 == false)), .raw (.bool (decide ((1 : Int) < ((gtD p0.2 y5).2.2.2))))⟩ :: ⟨_, (true && (x34 == false)), .raw (.bool (decide ((1 : Int) < ((gtD p0.2 y5).2.2.2))))⟩ :: ⟨_, ((true && (x34 == false)) && ((decide ((1 : Int) < ((gtD p0.2 y5).2.2.2))) == true)), .rep E_impl_DiagramNode A (gtD p0.2 y5)⟩ :: ⟨_, ((true && (x34 == false)) && ((decide ((1 : Int) < ((gtD p0.2 y5).2.2.2))) == true)), .raw (.pointer (some ⟨b1_0, 1, none⟩))⟩ :: ⟨_, ((true && (x34 == false)) && ((decide ((1 : Int) < ((gtD p0.2 y5).2.2.2))) == true)), .rep (eSl E_impl_DiagramNode) A p0.2⟩ :: ⟨_, ((true && (x34 == false)) && ((decide ((1 : Int) < ((gtD p0.2 y5).2.2.2))) == true)), .raw (.pointer (some ⟨b4_8, 3, none⟩))⟩ :: ⟨_, ((true && (x34 == false)) && ((decide ((1 : Int) < ((gtD p0.2 y5).2.2.2))) == true)), .raw (.int .i64 ((gtD p0.2 y5).2.2.2))⟩ :: ⟨_, ((true && (x34 == false)) && ((decide ((1 : Int) < ((gtD p0.2 y5).2.2.2))) == true)), .raw (.int .i64 (((gtD p0.2 y5).2.2.2) - (2 : Int)))⟩ :: ⟨_, ((true && (x34 == false)) && ((decide ((1 : Int) < ((gtD p0.2 y5).2.2.2))) == true)), .qtr E_impl_DiagramNode A (gtD p0.2 (((gtD p0.2 y5).2.2.2) - (2 : Int)))⟩ :: ⟨_, ((true && (x34 == false)) && ((decide ((1 : Int) < ((gtD p0.2 y5).2.2.2))) == true)), .rep E_impl_DiagramNode A (gtD p0.2 (((gtD p0.2 y5).2.2.2) - (2 : Int)))⟩ :: ⟨_, ((true && (x34 == false)) && ((decide ((1 : Int) < ((gtD p0.2 y5).2.2.2))) == true)), .raw (.bool x38)⟩ :: ⟨_, ((true && (x34 == false)) && ((decide ((1 : Int) < ((gtD p0.2 y5).2.2.2))) == true)), .raw (.bool (!x38))⟩ :: ⟨_, (true && (x34 == false)), .raw (.bool x40)⟩ :: ⟨_, true, .raw (.bool x42)⟩ :: []) (tl := []) (by kernel_rfl) (by kernel_rfl) (by kernel_rfl) (by kernel_rfl) ?_ ?_
    ·exact
      Obls.p (fun R' w' hw hs hd => of_fieldAddr_raw ((hs 4 rfl).trans h4) ff_63_2 Tryd.sizeOf3 (by decide) rfl) <|
      Obls.p (fun R' w' hw hs hd => by have a0 : R' 51 = (.pointer (some ⟨b4_8, 2, none⟩)) := hd.g 0 rfl; exact OpF.int (of_load_box ((hO.fr hw).ok 1 _ rfl).1 a0 fl_impl_DiagramNode_2 rfl Tryd.isAgg3 Tryd.sizeOf3)) <|
      Obls.p (fun R' w' hw hs hd => by have a0 : R' 52 = .int .i64 ((gtD p0.2 y5).2.2.1) := hd.g 0 rfl; exact of_gtr a0 rfl) <|
      Obls.p (fun R' w' hw hs hd => by have a0 : R' 53 = .bool (decide ((1 : Int) < ((gtD p0.2 y5).2.2.1))) := hd.g 0 rfl; exact of_move a0) <|
      Obls.cons (Obl.grd 3 true _ _ _ rfl rfl rfl rfl rfl (by kernel_rfl) fun hg R' w' hw hs hd => by have a0 : R' 4 = (.pointer (some ⟨b4_8, 0, none⟩)) := (hs 4 rfl).trans h4; exact (of_load_box ((hO.fr hw).ok 1 _ rfl).1 a0 (Fld.id _) rfl Tryd.isAgg63 Tryd.sizeOf63)) <|
      Obls.cons (Obl.grd 3 true _ _ _ rfl rfl rfl rfl rfl (by kernel_rfl) fun hg R' w' hw hs hd => by have a0 : R' 1 = (.pointer (some ⟨b1_0, 0, none⟩)) := (hs 1 rfl).trans h1; exact of_fieldAddr_raw a0 ff_34_1 Tryd.sizeOf32 (by decide) rfl) <|
      Obls.cons (Obl.grd 3 true _ _ _ rfl rfl rfl rfl rfl (by kernel_rfl) fun hg R' w' hw hs hd => by have a0 : R' 56 = (.pointer (some ⟨b1_0, 1, none⟩)) := hd 0 _ _ _ rfl rfl rfl rfl hg; exact (of_load_box ((hO.fr hw).ok 0 _ rfl).1 a0 fl_impl_Diagram_1 rfl Tryd.isAgg32 Tryd.sizeOf32)) <|
      Obls.cons (Obl.grd 3 true _ _ _ rfl rfl rfl rfl rfl (by kernel_rfl) fun hg R' w' hw hs hd => by have a0 : R' 4 = (.pointer (some ⟨b4_8, 0, none⟩)) := (hs 4 rfl).trans h4; exact of_fieldAddr_raw a0 ff_63_2 Tryd.sizeOf3 (by decide) rfl) <|
      Obls.cons (Obl.grd 3 true _ _ _ rfl rfl rfl rfl rfl (by kernel_rfl) fun hg R' w' hw hs hd => by have a0 : R' 58 = (.pointer (some ⟨b4_8, 2, none⟩)) := hd 0 _ _ _ rfl rfl rfl rfl hg; exact OpF.int (of_load_box ((hO.fr hw).ok 1 _ rfl).1 a0 fl_impl_DiagramNode_2 rfl Tryd.isAgg3 Tryd.sizeOf3)) <|
      Obls.cons (Obl.grd 3 true _ _ _ rfl rfl rfl rfl rfl (by kernel_rfl) fun hg R' w' hw hs hd => by have a0 : R' 59 = .int .i64 ((gtD p0.2 y5).2.2.1) := hd 0 _ _ _ rfl rfl rfl rfl hg; exact of_sub a0 rfl (gd e30 hg)) <|
      Obls.cons (Obl.grd 3 true _ _ _ rfl rfl rfl rfl rfl (by kernel_rfl) fun hg R' w' hw hs hd => by have a0 : Rep (eSl E_impl_DiagramNode) A w' (R' 57) p0.2 := hd 0 _ _ _ rfl rfl rfl rfl hg; have a1 : R' 60 = .int .i64 (((gtD p0.2 y5).2.2.1) - (2 : Int)) := hd 1 _ _ _ rfl rfl rfl rfl hg; exact of_indexAddr a0 a1 Tryd.underlying32 Tryd.sizeOf63 (gd e31 hg)) <|
      Obls.cons (Obl.grd 3 true _ _ _ rfl rfl rfl rfl rfl (by kernel_rfl) fun hg R' w' hw hs hd => by have a0 : QRep E_impl_DiagramNode A w' (R' 61) (gtD p0.2 (((gtD p0.2 y5).2.2.1) - (2 : Int))) := hd 0 _ _ _ rfl rfl rfl rfl hg; exact (of_load a0.ptr Tryd.isAgg63 Tryd.sizeOf63)) <|
      Obls.cons (Obl.grd 3 true _ _ _ rfl rfl rfl rfl rfl (by kernel_rfl) fun hg R' w' hw hs hd => by have a0 : Rep E_impl_DiagramNode A w' (R' 55) (gtD p0.2 y5) := hd 0 _ _ _ rfl rfl rfl rfl hg; have a1 : Rep E_impl_DiagramNode A w' (R' 62) (gtD p0.2 (((gtD p0.2 y5).2.2.1) - (2 : Int))) := hd 1 _ _ _ rfl rfl rfl rfl hg; exact of_call Tryd.call64 (M_spec_l15Before_ok (q33 hg) (hA.fr hw.size) a0 a1)) <|
      Obls.cons (Obl.grd 3 true _ _ _ rfl rfl rfl rfl rfl (by kernel_rfl) fun hg R' w' hw hs hd => by have a0 : R' 63 = .bool x32 := hd 0 _ _ _ rfl rfl rfl rfl hg; exact of_not a0) <|
      Obls.p (fun R' w' hw hs hd => by have a0 : R' 54 = .bool (decide ((1 : Int) < ((gtD p0.2 y5).2.2.1))) := hd.g 0 rfl; exact of_pick (decide ((1 : Int) < ((gtD p0.2 y5).2.2.1))) a0 (fun hc => by have a1 : R' 64 = .bool (!x32) := hd 1 _ _ _ rfl rfl rfl rfl (g_and rfl (beq_of hc)); show _ = Value.bool x34; rw [q35, hc]; exact a1) (fun hc => by show _ = Value.bool x34; rw [q35, hc]; exact rfl)) <|
      Obls.p (fun R' w' hw hs hd => by have a0 : R' 65 = .bool x34 := hd.g 0 rfl; exact of_move a0) <|
      Obls.cons (Obl.grd 15 false _ _ _ rfl rfl rfl rfl rfl (by kernel_rfl) fun hg R' w' hw hs hd => by have a0 : R' 4 = (.pointer (some ⟨b4_8, 0, none⟩)) := (hs 4 rfl).trans h4; exact of_fieldAddr_raw a0 ff_63_3 Tryd.sizeOf3 (by decide) rfl) <|
      Obls.cons (Obl.grd 15 false _ _ _ rfl rfl rfl rfl rfl (by kernel_rfl) fun hg R' w' hw hs hd => by have a0 : R' 67 = (.pointer (some ⟨b4_8, 3, none⟩)) := hd 0 _ _ _ rfl rfl rfl rfl hg; exact OpF.int (of_load_box ((hO.fr hw).ok 1 _ rfl).1 a0 fl_impl_DiagramNode_3 rfl Tryd.isAgg3 Tryd.sizeOf3)) <|
      Obls.cons (Obl.grd 15 false _ _ _ rfl rfl rfl rfl rfl (by kernel_rfl) fun hg R' w' hw hs hd => by have a0 : R' 68 = .int .i64 ((gtD p0.2 y5).2.2.2) := hd 0 _ _ _ rfl rfl rfl rfl hg; exact of_gtr a0 rfl) <|
      Obls.cons (Obl.grd 15 false _ _ _ rfl rfl rfl rfl rfl (by kernel_rfl) fun hg R' w' hw hs hd => by have a0 : R' 69 = .bool (decide ((1 : Int) < ((gtD p0.2 y5).2.2.2))) := hd 0 _ _ _ rfl rfl rfl rfl hg; exact of_move a0) <|
      Obls.cons (Obl.grd 19 true _ _ _ rfl rfl rfl rfl rfl (by kernel_rfl) fun hg R' w' hw hs hd => by have a0 : R' 4 = (.pointer (some ⟨b4_8, 0, none⟩)) := (hs 4 rfl).trans h4; exact (of_load_box ((hO.fr hw).ok 1 _ rfl).1 a0 (Fld.id _) rfl Tryd.isAgg63 Tryd.sizeOf63)) <|
      Obls.cons (Obl.grd 19 true _ _ _ rfl rfl rfl rfl rfl (by kernel_rfl) fun hg R' w' hw hs hd => by have a0 : R' 1 = (.pointer (some ⟨b1_0, 0, none⟩)) := (hs 1 rfl).trans h1; exact of_fieldAddr_raw a0 ff_34_1 Tryd.sizeOf32 (by decide) rfl) <|
      Obls.cons (Obl.grd 19 true _ _ _ rfl rfl rfl rfl rfl (by kernel_rfl) fun hg R' w' hw hs hd => by have a0 : R' 72 = (.pointer (some ⟨b1_0, 1, none⟩)) := hd 0 _ _ _ rfl rfl rfl rfl hg; exact (of_load_box ((hO.fr hw).ok 0 _ rfl).1 a0 fl_impl_Diagram_1 rfl Tryd.isAgg32 Tryd.sizeOf32)) <|
      Obls.cons (Obl.grd 19 true _ _ _ rfl rfl rfl rfl rfl (by kernel_rfl) fun hg R' w' hw hs hd => by have a0 : R' 4 = (.pointer (some ⟨b4_8, 0, none⟩)) := (hs 4 rfl).trans h4; exact of_fieldAddr_raw a0 ff_63_3 Tryd.sizeOf3 (by decide) rfl) <|
      Obls.cons (Obl.grd 19 true _ _ _ rfl rfl rfl rfl rfl (by kernel_rfl) fun hg R' w' hw hs hd => by have a0 : R' 74 = (.pointer (some ⟨b4_8, 3, none⟩)) := hd 0 _ _ _ rfl rfl rfl rfl hg; exact OpF.int (of_load_box ((hO.fr hw).ok 1 _ rfl).1 a0 fl_impl_DiagramNode_3 rfl Tryd.isAgg3 Tryd.sizeOf3)) <|
      Obls.cons (Obl.grd 19 true _ _ _ rfl rfl rfl rfl rfl (by kernel_rfl) fun hg R' w' hw hs hd => by have a0 : R' 75 = .int .i64 ((gtD p0.2 y5).2.2.2) := hd 0 _ _ _ rfl rfl rfl rfl hg; exact of_sub a0 rfl (gd e36 hg)) <|
      Obls.cons (Obl.grd 19 true _ _ _ rfl rfl rfl rfl rfl (by kernel_rfl) fun hg R' w' hw hs hd => by have a0 : Rep (eSl E_impl_DiagramNode) A w' (R' 73) p0.2 := hd 0 _ _ _ rfl rfl rfl rfl hg; have a1 : R' 76 = .int .i64 (((gtD p0.2 y5).2.2.2) - (2 : Int)) := hd 1 _ _ _ rfl rfl rfl rfl hg; exact of_indexAddr a0 a1 Tryd.underlying32 Tryd.sizeOf63 (gd e37 hg)) <|
      Obls.cons (Obl.grd 19 true _ _ _ rfl rfl rfl rfl rfl (by kernel_rfl) fun hg R' w' hw hs hd => by have a0 : QRep E_impl_DiagramNode A w' (R' 77) (gtD p0.2 (((gtD p0.2 y5).2.2.2) - (2 : Int))) := hd 0 _ _ _ rfl rfl rfl rfl hg; exact (of_load a0.ptr Tryd.isAgg63 Tryd.sizeOf63)) <|
      Obls.cons (Obl.grd 19 true _ _ _ rfl rfl rfl rfl rfl (by kernel_rfl) fun hg R' w' hw hs hd => by have a0 : Rep E_impl_DiagramNode A w' (R' 71) (gtD p0.2 y5) := hd 0 _ _ _ rfl rfl rfl rfl hg; have a1 : Rep E_impl_DiagramNode A w' (R' 78) (gtD p0.2 (((gtD p0.2 y5).2.2.2) - (2 : Int))) := hd 1 _ _ _ rfl rfl rfl rfl hg; exact of_call Tryd.call64 (M_spec_l15Before_ok (q39 hg) (hA.fr hw.size) a0 a1)) <|
      Obls.cons (Obl.grd 19 true _ _ _ rfl rfl rfl rfl rfl (by kernel_rfl) fun hg R' w' hw hs hd => by have a0 : R' 79 = .bool x38 := hd 0 _ _ _ rfl rfl rfl rfl hg; exact of_not a0) <|
      Obls.cons (Obl.grd 15 false _ _ _ rfl rfl rfl rfl rfl (by kernel_rfl) fun hg R' w' hw hs hd => by have a0 : R' 70 = .bool (decide ((1 : Int) < ((gtD p0.2 y5).2.2.2))) := hd 0 _ _ _ rfl rfl rfl rfl hg; exact of_pick (decide ((1 : Int) < ((gtD p0.2 y5).2.2.2))) a0 (fun hc => by have a1 : R' 80 = .bool (!x38) := hd 1 _ _ _ rfl rfl rfl rfl (g_and hg (beq_of hc)); show _ = Value.bool x40; rw [q41, hc]; exact a1) (fun hc => by show _ = Value.bool x40; rw [q41, hc]; exact rfl)) <|
      Obls.p (fun R' w' hw hs hd => by have a0 : R' 66 = .bool x34 := hd.g 0 rfl; exact of_pick x34 a0 (fun hc => by show _ = Value.bool x42; rw [q43, hc]; exact rfl) (fun hc => by have a2 : R' 81 = .bool x40 := hd 1 _ _ _ rfl rfl rfl rfl (g_and rfl (beq_of hc)); show _ = Value.bool x42; rw [q43, hc]; exact a2)) <|
      Obls.nil
    intro R w hw hs hF'
    replace h1 := (hs 1 rfl).trans h1
    replace h3 := (hs 3 rfl).trans h3
    replace h4 := (hs 4 rfl).trans h4
    have h82 : R 82 = .bool x42 := hF' 31 _ _ rfl rfl rfl
    replace hO := hO.fr hw
    replace hA := hA.fr hw.size
    replace hF := hF.trans hw
    clear hs hF' hw
    refine seqR_nil ?_
    refine HT.cond x42 h82 (fun c44 => ?_) (fun c44 => ?_)
    ·have hr := cnd_t c44 hr
     refine HT.seq ?_
     refine HT.text (l := ⟨_, true, .raw (.bool false)⟩ :: []) (tl := []) (by kernel_rfl) (by kernel_rfl) (by kernel_rfl) ?_ ?_
     ·exact
       Obls.p (fun R' w' hw hs hd => of_assign rfl) <|
       Obls.nil
     intro R w hw hs hF'
     have h2 : R 2 = .bool false := hF' 0 _ _ rfl rfl rfl
     replace hO := hO.fr hw
     replace hO : IniOK [] A w := hO.sub [] trivial
     replace hA := hA.fr hw.size
     replace hF := hF.trans hw
     clear hs hF' hw
     refine seqR_nil ?_
     refine HT.ret ?_
     obtain rfl := Option.some.inj hr
     have hr := hr0
     replace hr : some _ = some _ := hr
     obtain rfl := Option.some.inj hr
     exact ⟨.inr rfl, [R 2], ⟨rfl, trivial⟩, h2, hF⟩
    ·have hr := cnd_f c44 hr
     refine HT.skip ?_
     refine HT.seq ?_
     refine HT.text (l := ⟨_, true, .raw (.int .i64 (0 : Int))⟩ :: []) (tl := []) (by kernel_rfl) (by kernel_rfl) (by kernel_rfl) ?_ ?_
     ·exact
       Obls.p (fun R' w' hw hs hd => of_assign rfl) <|
       Obls.nil
     intro R w hw hs hF'
     replace h1 := (hs 1 rfl).trans h1
     replace h3 := (hs 3 rfl).trans h3
     replace h4 := (hs 4 rfl).trans h4
     have h5 : R 5 = .int .i64 (0 : Int) := hF' 0 _ _ rfl rfl rfl
     replace hO := hO.fr hw
     replace hA := hA.fr hw.size
     replace hF := hF.trans hw
     clear hs hF' hw
     refine seqR_nil ?_
     obtain ⟨rl45, q46, hr⟩ := cl_some hr
     replace q46 := q46 rfl
     refine HT.cut0 (fun R w => ∃ A : Av, ∃ (s47 : Unit), rl45 = Ex.go s47 ∧ AvOK A w ∧ Fr w0 w ∧ (∀ b o, A0 b o → A b o) ∧ IniOK [ob (.pointer (some ⟨b1_0, 0, none⟩)) (.box w0.heap.size 34 E_impl_Diagram p0)] A w ∧ R 1 = (.pointer (some ⟨b1_0, 0, none⟩)) ∧ R 3 = .int .i64 y5) ?_ ?_
     ·refine HT.block ?_
      refine HT.loop (fun k R w => ∃ A : Av, ∃ (y48 : Int), M_spec_IsValidDiagram_L1 fu p0 y5 k y48 = some rl45 ∧ AvOK A w ∧ Fr w0 w ∧ (∀ b o, A0 b o → A b o) ∧ IniOK [ob (.pointer (some ⟨b1_0, 0, none⟩)) (.box w0.heap.size 34 E_impl_Diagram p0), ob (.pointer (some ⟨b4_8, 0, none⟩)) (.box w0.heap.size 63 E_impl_DiagramNode (gtD p0.2 y5))] A w ∧ R 1 = (.pointer (some ⟨b1_0, 0, none⟩)) ∧ R 3 = .int .i64 y5 ∧ R 4 = (.pointer (some ⟨b4_8, 0, none⟩)) ∧ R 5 = .int .i64 y48) fu ⟨_, _, q46, hA, hF, hAA, hO, h1, h3, h4, h5⟩ ?_
      have hr1 := hr; clear hr q46
      rintro k R w ⟨A, y48, hr, hA, hF, hAA, hO, h1, h3, h4, h5⟩
      rcases k with _ | k
      ·cases (show none = some _ from hr)
      rw [M_spec_IsValidDiagram_L1] at hr
      refine HT.seq ?_
      refine HT.seq ?_
      refine HT.text (l := ⟨_, true, .raw (.int .i64 y48)⟩ :: ⟨_, true, .raw (.int .i64 y5)⟩ :: ⟨_, true, .raw (.bool (decide (y48 < y5)))⟩ :: []) (tl := []) (by kernel_rfl) (by kernel_rfl) (by kernel_rfl) ?_ ?_
      ·exact
        Obls.p (fun R' w' hw hs hd => of_move ((hs 5 rfl).trans h5)) <|
        Obls.p (fun R' w' hw hs hd => of_move ((hs 3 rfl).trans h3)) <|
        Obls.p (fun R' w' hw hs hd => by have a0 : R' 83 = .int .i64 y48 := hd.g 0 rfl; have a1 : R' 84 = .int .i64 y5 := hd.g 1 rfl; exact of_lss a0 a1) <|
        Obls.nil
      intro R w hw hs hF'
      replace h1 := (hs 1 rfl).trans h1
      replace h3 := (hs 3 rfl).trans h3
      replace h4 := (hs 4 rfl).trans h4
      replace h5 := (hs 5 rfl).trans h5
      have h85 : R 85 = .bool (decide (y48 < y5)) := hF' 2 _ _ rfl rfl rfl
      replace hO := hO.fr hw
      replace hA := hA.fr hw.size
      replace hF := hF.trans hw
      clear hs hF' hw
      refine seqR_nil ?_
      refine HT.cond (decide (y48 < y5)) h85 (fun c49 => ?_) (fun c49 => ?_)
      ·have hr := cnd_t c49 hr
       refine HT.skip ?_
       refine HT.seq ?_
       refine HT.block ?_
       refine HT.seq ?_
       obtain ⟨e50, hr⟩ := ck_some hr
       refine HT.draw (by kernel_rfl) (l := ⟨_, true, .raw (.pointer (some ⟨b1_0, 1, none⟩))⟩ :: ⟨_, true, .rep (eSl E_impl_DiagramNode) A p0.2⟩ :: ⟨_, true, .raw (.int .i64 y48)⟩ :: ⟨_, true, .qtr E_impl_DiagramNode A (gtD p0.2 y48)⟩ :: ⟨_, true, .rep E_impl_DiagramNode A (gtD p0.2 y48)⟩ :: ⟨_, true, .rep E_impl_DiagramNode A (gtD p0.2 y5)⟩ :: ⟨_, true, .raw (.bool ((gtD p0.2 y48) == (gtD p0.2 y5)))⟩ :: []) (tl := []) (by kernel_rfl) (by kernel_rfl) (by kernel_rfl) (by kernel_rfl) ?_ ?_
       ·exact
         Obls.p (fun R' w' hw hs hd => of_fieldAddr_raw ((hs 1 rfl).trans h1) ff_34_1 Tryd.sizeOf32 (by decide) rfl) <|
         Obls.p (fun R' w' hw hs hd => by have a0 : R' 88 = (.pointer (some ⟨b1_0, 1, none⟩)) := hd.g 0 rfl; exact (of_load_box ((hO.fr hw).ok 0 _ rfl).1 a0 fl_impl_Diagram_1 rfl Tryd.isAgg32 Tryd.sizeOf32)) <|
         Obls.p (fun R' w' hw hs hd => of_move ((hs 5 rfl).trans h5)) <|
         Obls.p (fun R' w' hw hs hd => by have a0 : Rep (eSl E_impl_DiagramNode) A w' (R' 89) p0.2 := hd.g 0 rfl; have a1 : R' 90 = .int .i64 y48 := hd.g 1 rfl; exact of_indexAddr a0 a1 Tryd.underlying32 Tryd.sizeOf63 e50) <|
         Obls.p (fun R' w' hw hs hd => by have a0 : QRep E_impl_DiagramNode A w' (R' 91) (gtD p0.2 y48) := hd.g 0 rfl; exact (of_load a0.ptr Tryd.isAgg63 Tryd.sizeOf63)) <|
         Obls.p (fun R' w' hw hs hd => (of_load_box ((hO.fr hw).ok 1 _ rfl).1 ((hs 4 rfl).trans h4) (Fld.id _) rfl Tryd.isAgg63 Tryd.sizeOf63)) <|
         Obls.p (fun R' w' hw hs hd => by have a0 : Rep E_impl_DiagramNode A w' (R' 92) (gtD p0.2 y48) := hd.g 0 rfl; have a1 : Rep E_impl_DiagramNode A w' (R' 93) (gtD p0.2 y5) := hd.g 1 rfl; exact of_struct_eql Tryd.eqGuardType63 (val_impl_DiagramNode a0) (val_impl_DiagramNode a1) (eql_63 (gtD p0.2 y48) (gtD p0.2 y5) _)) <|
         Obls.nil
       intro R w hw hs hF'
       replace h1 := (hs 1 rfl).trans h1
       replace h3 := (hs 3 rfl).trans h3
       replace h4 := (hs 4 rfl).trans h4
       replace h5 := (hs 5 rfl).trans h5
       have h94 : R 94 = .bool ((gtD p0.2 y48) == (gtD p0.2 y5)) := hF' 6 _ _ rfl rfl rfl
       replace hO := hO.fr hw
       replace hA := hA.fr hw.size
       replace hF := hF.trans hw
       clear hs hF' hw
       refine seqR_nil ?_
       refine HT.cond ((gtD p0.2 y48) == (gtD p0.2 y5)) h94 (fun c51 => ?_) (fun c51 => ?_)
       ·have hr := cnd_t c51 hr
        refine HT.seq ?_
        refine HT.text (l := ⟨_, true, .raw (.bool false)⟩ :: []) (tl := []) (by kernel_rfl) (by kernel_rfl) (by kernel_rfl) ?_ ?_
        ·exact
          Obls.p (fun R' w' hw hs hd => of_assign rfl) <|
          Obls.nil
        intro R w hw hs hF'
        have h2 : R 2 = .bool false := hF' 0 _ _ rfl rfl rfl
        replace hO := hO.fr hw
        replace hO : IniOK [] A w := hO.sub [] trivial
        replace hA := hA.fr hw.size
        replace hF := hF.trans hw
        clear hs hF' hw
        refine seqR_nil ?_
        refine HT.ret ?_
        obtain rfl := Option.some.inj hr
        have hr := hr1
        replace hr : some _ = some _ := hr
        obtain rfl := Option.some.inj hr
        have hr := hr0
        replace hr : some _ = some _ := hr
        obtain rfl := Option.some.inj hr
        exact ⟨.inr rfl, [R 2], ⟨rfl, trivial⟩, h2, hF⟩
       ·have hr := cnd_f c51 hr
        refine HT.skip ?_
        obtain ⟨e52, hr⟩ := ck_some hr
        refine HT.text (l := ⟨_, true, .raw (.int .i64 y48)⟩ :: ⟨_, true, .raw (.int .i64 (y48 + (1 : Int)))⟩ :: ⟨_, true, .raw (.int .i64 (y48 + (1 : Int)))⟩ :: []) (tl := []) (by kernel_rfl) (by kernel_rfl) (by kernel_rfl) ?_ ?_
        ·exact
          Obls.p (fun R' w' hw hs hd => of_move ((hs 5 rfl).trans h5)) <|
          Obls.p (fun R' w' hw hs hd => by have a0 : R' 86 = .int .i64 y48 := hd.g 0 rfl; exact of_add a0 rfl e52) <|
          Obls.p (fun R' w' hw hs hd => by have a0 : R' 87 = .int .i64 (y48 + (1 : Int)) := hd.g 0 rfl; exact of_assign a0) <|
          Obls.nil
        intro R w hw hs hF'
        replace h1 := (hs 1 rfl).trans h1
        replace h3 := (hs 3 rfl).trans h3
        replace h4 := (hs 4 rfl).trans h4
        have h5 : R 5 = .int .i64 (y48 + (1 : Int)) := hF' 2 _ _ rfl rfl rfl
        replace hO := hO.fr hw
        replace hA := hA.fr hw.size
        replace hF := hF.trans hw
        clear hs hF' hw
        refine seqR_nil ?_
        exact Exists.intro k (And.intro (Nat.lt_succ_self k) ⟨_, _, hr, hA, hF, hAA, hO, h1, h3, h4, h5⟩)
      ·have hr := cnd_f c49 hr
       refine HT.exit ?_
       obtain rfl := Option.some.inj hr
       replace hO : IniOK [ob (.pointer (some ⟨b1_0, 0, none⟩)) (.box w0.heap.size 34 E_impl_Diagram p0)] A w := hO.sub [(0, ob (.pointer (some ⟨b1_0, 0, none⟩)) (.box w0.heap.size 34 E_impl_Diagram p0))] ⟨rfl, rfl, trivial⟩
       exact Exists.intro _ ⟨_, rfl, hA, hF, hAA, hO, h1, h3⟩
     rintro R w ⟨A, s47, rfl, hA, hF, hAA, hO, h1, h3⟩
     have hr := exM_go hr
     obtain ⟨e53, hr⟩ := ck_some hr
     refine HT.text (l := ⟨_, true, .raw (.int .i64 y5)⟩ :: ⟨_, true, .raw (.int .i64 (y5 + (1 : Int)))⟩ :: ⟨_, true, .raw (.int .i64 (y5 + (1 : Int)))⟩ :: []) (tl := []) (by kernel_rfl) (by kernel_rfl) (by kernel_rfl) ?_ ?_
     ·exact
       Obls.p (fun R' w' hw hs hd => of_move ((hs 3 rfl).trans h3)) <|
       Obls.p (fun R' w' hw hs hd => by have a0 : R' 11 = .int .i64 y5 := hd.g 0 rfl; exact of_add a0 rfl e53) <|
       Obls.p (fun R' w' hw hs hd => by have a0 : R' 12 = .int .i64 (y5 + (1 : Int)) := hd.g 0 rfl; exact of_assign a0) <|
       Obls.nil
     intro R w hw hs hF'
     replace h1 := (hs 1 rfl).trans h1
     have h3 : R 3 = .int .i64 (y5 + (1 : Int)) := hF' 2 _ _ rfl rfl rfl
     replace hO := hO.fr hw
     replace hA := hA.fr hw.size
     replace hF := hF.trans hw
     clear hs hF' hw
     refine seqR_nil ?_
     exact Exists.intro k (And.intro (Nat.lt_succ_self k) ⟨_, _, hr, hA, hF, hAA, hO, h1, h3⟩)
  ·have hr := cnd_f c6 hr
   refine HT.exit ?_
   obtain rfl := Option.some.inj hr
   exact Exists.intro _ ⟨_, rfl, hA, hF, hAA, hO, h1⟩
 rintro R w ⟨A, s4, rfl, hA, hF, hAA, hO, h1⟩
 have hr := exM_go hr
 refine HT.seq ?_
 obtain ⟨e54, hr⟩ := ck_some hr
 obtain ⟨x55, q56, hr⟩ := cl_some hr
 obtain ⟨x57, q58, hr⟩ := bd_some hr
 refine HT.text (l := ⟨_, true, .raw (.pointer (some ⟨b1_0, 0, none⟩))⟩ :: ⟨_, true, .raw (.int .i64 p0.1)⟩ :: ⟨_, true, .raw (.pointer (some ⟨b1_0, 1, none⟩))⟩ :: ⟨_, true, .rep (eSl E_impl_DiagramNode) A p0.2⟩ :: ⟨_, true, .raw (.int .i64 (p0.2.length : Int))⟩ :: ⟨_, true, .raw (.int .i64 ((p0.2.length : Int) + (1 : Int)))⟩ :: ⟨_, true, .raw (.bool x55)⟩ :: ⟨_, true, .raw (.bool x55)⟩ :: ⟨_, (true && (x55 == true)), .raw (.pointer (some ⟨b1_0, 1, none⟩))⟩ :: ⟨_, (true && (x55 == true)), .rep (eSl E_impl_DiagramNode) A p0.2⟩ :: ⟨_, (true && (x55 == true)), .raw (.int .i64 (p0.2.length : Int))⟩ :: ⟨_, (true && (x55 == true)), .raw (.bool (decide ((p0.2.length : Int) ≤ (200 : Int))))⟩ :: ⟨_, true, .raw (.bool x57)⟩ :: ⟨_, true, .raw (.bool x57)⟩ :: []) (tl := []) (by kernel_rfl) (by kernel_rfl) (by kernel_rfl) ?_ ?_
 ·exact
   Obls.p (fun R' w' hw hs hd => of_fieldAddr_raw ((hs 1 rfl).trans h1) ff_34_0 Tryd.sizeOf3 (by decide) rfl) <|
   Obls.p (fun R' w' hw hs hd => by have a0 : R' 95 = (.pointer (some ⟨b1_0, 0, none⟩)) := hd.g 0 rfl; exact OpF.int (of_load_box ((hO.fr hw).ok 0 _ rfl).1 a0 fl_impl_Diagram_0 rfl Tryd.isAgg3 Tryd.sizeOf3)) <|
   Obls.p (fun R' w' hw hs hd => of_fieldAddr_raw ((hs 1 rfl).trans h1) ff_34_1 Tryd.sizeOf32 (by decide) rfl) <|
   Obls.p (fun R' w' hw hs hd => by have a0 : R' 97 = (.pointer (some ⟨b1_0, 1, none⟩)) := hd.g 0 rfl; exact (of_load_box ((hO.fr hw).ok 0 _ rfl).1 a0 fl_impl_Diagram_1 rfl Tryd.isAgg32 Tryd.sizeOf32)) <|
   Obls.p (fun R' w' hw hs hd => by have a0 : Rep (eSl E_impl_DiagramNode) A w' (R' 98) p0.2 := hd.g 0 rfl; exact of_len_sl (aT := #[]) a0 Tryd.underlying32) <|
   Obls.p (fun R' w' hw hs hd => by have a0 : R' 99 = .int .i64 (p0.2.length : Int) := hd.g 0 rfl; exact of_add a0 rfl e54) <|
   Obls.p (fun R' w' hw hs hd => by have a0 : R' 96 = .int .i64 p0.1 := hd.g 0 rfl; have a2 : R' 100 = .int .i64 ((p0.2.length : Int) + (1 : Int)) := hd.g 1 rfl; exact of_call Tryd.call56 (M_spec_l1In_ok (q56 rfl) (hA.fr hw.size) a0 rfl a2)) <|
   Obls.p (fun R' w' hw hs hd => by have a0 : R' 101 = .bool x55 := hd.g 0 rfl; exact of_move a0) <|
   Obls.cons (Obl.grd 7 true _ _ _ rfl rfl rfl rfl rfl (by kernel_rfl) fun hg R' w' hw hs hd => by have a0 : R' 1 = (.pointer (some ⟨b1_0, 0, none⟩)) := (hs 1 rfl).trans h1; exact of_fieldAddr_raw a0 ff_34_1 Tryd.sizeOf32 (by decide) rfl) <|
   Obls.cons (Obl.grd 7 true _ _ _ rfl rfl rfl rfl rfl (by kernel_rfl) fun hg R' w' hw hs hd => by have a0 : R' 103 = (.pointer (some ⟨b1_0, 1, none⟩)) := hd 0 _ _ _ rfl rfl rfl rfl hg; exact (of_load_box ((hO.fr hw).ok 0 _ rfl).1 a0 fl_impl_Diagram_1 rfl Tryd.isAgg32 Tryd.sizeOf32)) <|
   Obls.cons (Obl.grd 7 true _ _ _ rfl rfl rfl rfl rfl (by kernel_rfl) fun hg R' w' hw hs hd => by have a0 : Rep (eSl E_impl_DiagramNode) A w' (R' 104) p0.2 := hd 0 _ _ _ rfl rfl rfl rfl hg; exact of_len_sl (aT := #[]) a0 Tryd.underlying32) <|
   Obls.cons (Obl.grd 7 true _ _ _ rfl rfl rfl rfl rfl (by kernel_rfl) fun hg R' w' hw hs hd => by have a0 : R' 105 = .int .i64 (p0.2.length : Int) := hd 0 _ _ _ rfl rfl rfl rfl hg; exact of_leq a0 rfl) <|
   Obls.p (fun R' w' hw hs hd => by have a0 : R' 102 = .bool x55 := hd.g 0 rfl; exact of_pick x55 a0 (fun hc => by have a1 : R' 106 = .bool (decide ((p0.2.length : Int) ≤ (200 : Int))) := hd 1 _ _ _ rfl rfl rfl rfl (g_and rfl (beq_of hc)); show _ = Value.bool x57; rw [q58, hc]; exact a1) (fun hc => by show _ = Value.bool x57; rw [q58, hc]; exact rfl)) <|
   Obls.p (fun R' w' hw hs hd => by have a0 : R' 107 = .bool x57 := hd.g 0 rfl; exact of_assign a0) <|
   Obls.nil
 intro R w hw hs hF'
 have h2 : R 2 = .bool x57 := hF' 13 _ _ rfl rfl rfl
 replace hO := hO.fr hw
 replace hO : IniOK [] A w := hO.sub [] trivial
 replace hA := hA.fr hw.size
 replace hF := hF.trans hw
 clear hs hF' hw
 refine seqR_nil ?_
 refine HT.ret ?_
 obtain rfl := Option.some.inj hr
 exact ⟨.inr rfl, [R 2], ⟨rfl, trivial⟩, h2, hF⟩
def M_spec_FormatInt_L0 (fu : Nat) : Nat → Int → (List UInt8) → Option (List UInt8)
 | 0, _, _ => none
 | k + 1, y7, y8 =>
  bif (y7 != (0 : Int)) then (
   ck ((10 : Int) != 0) <|
   bif (decide ((y7.tmod (10 : Int)) < (0 : Int))) then (
    ck (i64B (0 - (y7.tmod (10 : Int)))) <|
    ck (i64B ((48 : Int) + (0 - (y7.tmod (10 : Int))))) <|
    ck (lenOK ((strB ([(IntKind.u8.wrap ((48 : Int) + (0 - (y7.tmod (10 : Int)))))] : List Int)) ++ y8).length) <|
    ck ((10 : Int) != 0) <|
    ck (i64B (y7.tdiv (10 : Int))) <|
    M_spec_FormatInt_L0 fu k (y7.tdiv (10 : Int)) ((strB ([(IntKind.u8.wrap ((48 : Int) + (0 - (y7.tmod (10 : Int)))))] : List Int)) ++ y8)
   ) else (
    ck (i64B ((48 : Int) + (y7.tmod (10 : Int)))) <|
    ck (lenOK ((strB ([(IntKind.u8.wrap ((48 : Int) + (y7.tmod (10 : Int))))] : List Int)) ++ y8).length) <|
    ck ((10 : Int) != 0) <|
    ck (i64B (y7.tdiv (10 : Int))) <|
    M_spec_FormatInt_L0 fu k (y7.tdiv (10 : Int)) ((strB ([(IntKind.u8.wrap ((48 : Int) + (y7.tmod (10 : Int))))] : List Int)) ++ y8)
   )
  ) else (
   some y8
  )
def M_spec_FormatInt (fu : Nat) (p0 : Int) : Option (List UInt8) :=
 bif (p0 == (0 : Int)) then (
  some ([48] : List UInt8)
 ) else (
  cl true (M_spec_FormatInt_L0 fu fu p0 ([] : List UInt8)) fun s6 =>
  bif (decide (p0 < (0 : Int))) then (
   ck (lenOK (([45] : List UInt8) ++ s6).length) <|
   some (([45] : List UInt8) ++ s6)
  ) else (
   some s6
  )
 )
theorem M_spec_FormatInt_ok {fu : Nat} {A : Av} {p0 : Int} {r : List UInt8} (hr : M_spec_FormatInt fu p0 = some r) {w : World} {v0 : Value} (hA : AvOK A w) (h0 : v0 = .int .i64 p0) :
  Calls Tryd.prog 32 #[v0] w fun e w' => ∃ v, e = .returned v ∧ (Rep eStr A w' v r ∧ Fr w w') := by
 unfold M_spec_FormatInt at hr
 obtain ⟨w0, hw0⟩ : ∃ w0, w0 = w := ⟨_, rfl⟩
 have hF : Fr w0 w := hw0 ▸ Fr.refl _
 rw [show Fr w = Fr w0 from hw0 ▸ rfl]
 clear hw0
 refine calls_of_HT2 [.tmp 2] Tryd.func32 Tryd.ntmps32 (by decide) rfl rfl (Nat.le_of_ble_eq_true rfl) ?_
 intro R hR
 replace h0 : R 0 = .int .i64 p0 := (hR 0 _ rfl).trans h0
 clear hR
 refine HT.seq ?_
 refine HT.text (l := ⟨_, true, .rep eStr A ([] : List UInt8)⟩ :: []) (tl := []) (by kernel_rfl) (by kernel_rfl) (by kernel_rfl) ?_ ?_
 ·exact
   Obls.p (fun R' w' hw hs hd => of_assign ⟨_, rfl, ⟨_, rfl, rfl, by decide⟩⟩) <|
   Obls.nil
 intro R w hw hs hF'
 replace h0 := (hs 0 rfl).trans h0
 replace hA := hA.fr hw.size
 replace hF := hF.trans hw
 clear hs hF' hw
 refine seqR_nil ?_
 refine HT.seq ?_
 refine HT.seq ?_
 refine HT.text (l := ⟨_, true, .raw (.int .i64 p0)⟩ :: ⟨_, true, .raw (.bool (p0 == (0 : Int)))⟩ :: []) (tl := []) (by kernel_rfl) (by kernel_rfl) (by kernel_rfl) ?_ ?_
 ·exact
   Obls.p (fun R' w' hw hs hd => of_move ((hs 0 rfl).trans h0)) <|
   Obls.p (fun R' w' hw hs hd => by have a0 : R' 6 = .int .i64 p0 := hd.g 0 rfl; exact of_eql a0 rfl) <|
   Obls.nil
 intro R w hw hs hF'
 replace h0 := (hs 0 rfl).trans h0
 have h7 : R 7 = .bool (p0 == (0 : Int)) := hF' 1 _ _ rfl rfl rfl
 replace hA := hA.fr hw.size
 replace hF := hF.trans hw
 clear hs hF' hw
 refine seqR_nil ?_
 refine HT.cond (p0 == (0 : Int)) h7 (fun c1 => ?_) (fun c1 => ?_)
 ·have hr := cnd_t c1 hr
  refine HT.seq ?_
  refine HT.text (l := ⟨_, true, .rep eStr A ([48] : List UInt8)⟩ :: []) (tl := []) (by kernel_rfl) (by kernel_rfl) (by kernel_rfl) ?_ ?_
  ·exact
    Obls.p (fun R' w' hw hs hd => of_assign ⟨_, rfl, ⟨_, rfl, rfl, by decide⟩⟩) <|
    Obls.nil
  intro R w hw hs hF'
  obtain ⟨u2, h2, f_u2⟩ : ∃ u, R 2 = u ∧ Rep eStr A w u ([48] : List UInt8) := ⟨_, rfl, hF' 0 _ _ rfl rfl rfl⟩
  replace hA := hA.fr hw.size
  replace hF := hF.trans hw
  clear hs hF' hw
  refine seqR_nil ?_
  refine HT.ret ?_
  obtain rfl := Option.some.inj hr
  exact ⟨.inr rfl, [R 2], ⟨rfl, trivial⟩, (f_u2.eq h2), hF⟩
 ·have hr := cnd_f c1 hr
  refine HT.skip ?_
  refine HT.seq ?_
  refine HT.text (l := ⟨_, true, .rep eStr A ([] : List UInt8)⟩ :: []) (tl := []) (by kernel_rfl) (by kernel_rfl) (by kernel_rfl) ?_ ?_
  ·exact
    Obls.p (fun R' w' hw hs hd => of_assign ⟨_, rfl, ⟨_, rfl, rfl, by decide⟩⟩) <|
    Obls.nil
  intro R w hw hs hF'
  replace h0 := (hs 0 rfl).trans h0
  obtain ⟨u3, h3, f_u3⟩ : ∃ u, R 3 = u ∧ Rep eStr A w u ([] : List UInt8) := ⟨_, rfl, hF' 0 _ _ rfl rfl rfl⟩
  replace hA := hA.fr hw.size
  replace hF := hF.trans hw
  clear hs hF' hw
  refine seqR_nil ?_
  refine HT.seq ?_
  refine HT.text (l := ⟨_, true, .raw (.int .i64 p0)⟩ :: ⟨_, true, .raw (.bool (decide (p0 < (0 : Int))))⟩ :: ⟨_, true, .raw (.bool (decide (p0 < (0 : Int))))⟩ :: []) (tl := []) (by kernel_rfl) (by kernel_rfl) (by kernel_rfl) ?_ ?_
  ·exact
    Obls.p (fun R' w' hw hs hd => of_move ((hs 0 rfl).trans h0)) <|
    Obls.p (fun R' w' hw hs hd => by have a0 : R' 8 = .int .i64 p0 := hd.g 0 rfl; exact of_lss a0 rfl) <|
    Obls.p (fun R' w' hw hs hd => by have a0 : R' 9 = .bool (decide (p0 < (0 : Int))) := hd.g 0 rfl; exact of_assign a0) <|
    Obls.nil
  intro R w hw hs hF'
  replace h0 := (hs 0 rfl).trans h0
  replace h3 := (hs 3 rfl).trans h3
  have h4 : R 4 = .bool (decide (p0 < (0 : Int))) := hF' 2 _ _ rfl rfl rfl
  replace f_u3 := f_u3.fr hw
  replace hA := hA.fr hw.size
  replace hF := hF.trans hw
  clear hs hF' hw
  refine seqR_nil ?_
  obtain ⟨rl4, q5, hr⟩ := cl_some hr
  replace q5 := q5 rfl
  refine HT.cut (fun R w => ∃ (s6 : (List UInt8)) (wo_3 : Value), rl4 = s6 ∧ AvOK A w ∧ Fr w0 w ∧ R 3 = wo_3 ∧ R 4 = .bool (decide (p0 < (0 : Int))) ∧ Rep eStr A w wo_3 s6) ?_ ?_
  ·refine HT.block ?_
   refine HT.loop (fun k R w => ∃ (y7 : Int) (y8 : List UInt8) (wl_3 : Value), M_spec_FormatInt_L0 fu k y7 y8 = some rl4 ∧ AvOK A w ∧ Fr w0 w ∧ R 0 = .int .i64 y7 ∧ R 3 = wl_3 ∧ R 4 = .bool (decide (p0 < (0 : Int))) ∧ Rep eStr A w wl_3 y8) fu ⟨_, _, u3, q5, hA, hF, h0, h3, h4, f_u3⟩ ?_
   have hr0 := hr; clear hr q5
   rintro k R w ⟨y7, y8, wl_3, hr, hA, hF, h0, h3, h4, f_wl_3⟩
   rcases k with _ | k
   ·cases (show none = some _ from hr)
   rw [M_spec_FormatInt_L0] at hr
   refine HT.seq ?_
   refine HT.seq ?_
   refine HT.text (l := ⟨_, true, .raw (.int .i64 y7)⟩ :: ⟨_, true, .raw (.bool (y7 != (0 : Int)))⟩ :: []) (tl := []) (by kernel_rfl) (by kernel_rfl) (by kernel_rfl) ?_ ?_
   ·exact
     Obls.p (fun R' w' hw hs hd => of_move ((hs 0 rfl).trans h0)) <|
     Obls.p (fun R' w' hw hs hd => by have a0 : R' 10 = .int .i64 y7 := hd.g 0 rfl; exact of_neq a0 rfl) <|
     Obls.nil
   intro R w hw hs hF'
   replace h0 := (hs 0 rfl).trans h0
   replace h3 := (hs 3 rfl).trans h3
   replace h4 := (hs 4 rfl).trans h4
   have h11 : R 11 = .bool (y7 != (0 : Int)) := hF' 1 _ _ rfl rfl rfl
   replace f_wl_3 := f_wl_3.fr hw
   replace hA := hA.fr hw.size
   replace hF := hF.trans hw
   clear hs hF' hw
   refine seqR_nil ?_
   refine HT.cond (y7 != (0 : Int)) h11 (fun c9 => ?_) (fun c9 => ?_)
   ·have hr := cnd_t c9 hr
    refine HT.skip ?_
    refine HT.block ?_
    refine HT.seq ?_
    obtain ⟨e10, hr⟩ := ck_some hr
    refine HT.text (l := ⟨_, true, .raw (.int .i64 y7)⟩ :: ⟨_, true, .raw (.int .i64 (y7.tmod (10 : Int)))⟩ :: ⟨_, true, .raw (.int .i64 (y7.tmod (10 : Int)))⟩ :: []) (tl := []) (by kernel_rfl) (by kernel_rfl) (by kernel_rfl) ?_ ?_
    ·exact
      Obls.p (fun R' w' hw hs hd => of_move ((hs 0 rfl).trans h0)) <|
      Obls.p (fun R' w' hw hs hd => by have a0 : R' 12 = .int .i64 y7 := hd.g 0 rfl; exact of_rem a0 rfl e10) <|
      Obls.p (fun R' w' hw hs hd => by have a0 : R' 13 = .int .i64 (y7.tmod (10 : Int)) := hd.g 0 rfl; exact of_assign a0) <|
      Obls.nil
    intro R w hw hs hF'
    replace h0 := (hs 0 rfl).trans h0
    replace h3 := (hs 3 rfl).trans h3
    replace h4 := (hs 4 rfl).trans h4
    have h5 : R 5 = .int .i64 (y7.tmod (10 : Int)) := hF' 2 _ _ rfl rfl rfl
    replace f_wl_3 := f_wl_3.fr hw
    replace hA := hA.fr hw.size
    replace hF := hF.trans hw
    clear hs hF' hw
    refine seqR_nil ?_
    refine HT.seq ?_
    refine HT.seq ?_
    refine HT.text (l := ⟨_, true, .raw (.int .i64 (y7.tmod (10 : Int)))⟩ :: ⟨_, true, .raw (.bool (decide ((y7.tmod (10 : Int)) < (0 : Int))))⟩ :: []) (tl := []) (by kernel_rfl) (by kernel_rfl) (by kernel_rfl) ?_ ?_
    ·exact
      Obls.p (fun R' w' hw hs hd => of_move ((hs 5 rfl).trans h5)) <|
      Obls.p (fun R' w' hw hs hd => by have a0 : R' 14 = .int .i64 (y7.tmod (10 : Int)) := hd.g 0 rfl; exact of_lss a0 rfl) <|
      Obls.nil
    intro R w hw hs hF'
    replace h0 := (hs 0 rfl).trans h0
    replace h3 := (hs 3 rfl).trans h3
    replace h4 := (hs 4 rfl).trans h4
    replace h5 := (hs 5 rfl).trans h5
    have h15 : R 15 = .bool (decide ((y7.tmod (10 : Int)) < (0 : Int))) := hF' 1 _ _ rfl rfl rfl
    replace f_wl_3 := f_wl_3.fr hw
    replace hA := hA.fr hw.size
    replace hF := hF.trans hw
    clear hs hF' hw
    refine seqR_nil ?_
    refine HT.cond (decide ((y7.tmod (10 : Int)) < (0 : Int))) h15 (fun c11 => ?_) (fun c11 => ?_)
    ·have hr := cnd_t c11 hr
     obtain ⟨e12, hr⟩ := ck_some hr
     refine HT.text (l := ⟨_, true, .raw (.int .i64 (y7.tmod (10 : Int)))⟩ :: ⟨_, true, .raw (.int .i64 (0 - (y7.tmod (10 : Int))))⟩ :: ⟨_, true, .raw (.int .i64 (0 - (y7.tmod (10 : Int))))⟩ :: []) (tl := []) (by kernel_rfl) (by kernel_rfl) (by kernel_rfl) ?_ ?_
     ·exact
       Obls.p (fun R' w' hw hs hd => of_move ((hs 5 rfl).trans h5)) <|
       Obls.p (fun R' w' hw hs hd => by have a0 : R' 16 = .int .i64 (y7.tmod (10 : Int)) := hd.g 0 rfl; exact of_neg a0 e12) <|
       Obls.p (fun R' w' hw hs hd => by have a0 : R' 17 = .int .i64 (0 - (y7.tmod (10 : Int))) := hd.g 0 rfl; exact of_assign a0) <|
       Obls.nil
     intro R w hw hs hF'
     replace h0 := (hs 0 rfl).trans h0
     replace h3 := (hs 3 rfl).trans h3
     replace h4 := (hs 4 rfl).trans h4
     have h5 : R 5 = .int .i64 (0 - (y7.tmod (10 : Int))) := hF' 2 _ _ rfl rfl rfl
     replace f_wl_3 := f_wl_3.fr hw
     replace hA := hA.fr hw.size
     replace hF := hF.trans hw
     clear hs hF' hw
     refine seqR_nil ?_
     refine HT.seq ?_
     obtain ⟨e13, hr⟩ := ck_some hr
     obtain ⟨e14, hr⟩ := ck_some hr
     refine HT.text (l := ⟨_, true, .raw (.int .i64 (0 - (y7.tmod (10 : Int))))⟩ :: ⟨_, true, .raw (.int .i64 ((48 : Int) + (0 - (y7.tmod (10 : Int)))))⟩ :: ⟨_, true, .raw (.int .u8 (IntKind.u8.wrap ((48 : Int) + (0 - (y7.tmod (10 : Int))))))⟩ :: ⟨_, true, .rep (eSl (eInt .u8)) A ([(IntKind.u8.wrap ((48 : Int) + (0 - (y7.tmod (10 : Int)))))] : List Int)⟩ :: ⟨_, true, .rep eStr A (strB ([(IntKind.u8.wrap ((48 : Int) + (0 - (y7.tmod (10 : Int)))))] : List Int))⟩ :: ⟨_, true, .raw wl_3⟩ :: ⟨_, true, .rep eStr A ((strB ([(IntKind.u8.wrap ((48 : Int) + (0 - (y7.tmod (10 : Int)))))] : List Int)) ++ y8)⟩ :: ⟨_, true, .rep eStr A ((strB ([(IntKind.u8.wrap ((48 : Int) + (0 - (y7.tmod (10 : Int)))))] : List Int)) ++ y8)⟩ :: []) (tl := []) (by kernel_rfl) (by kernel_rfl) (by kernel_rfl) ?_ ?_
     ·exact
       Obls.p (fun R' w' hw hs hd => of_move ((hs 5 rfl).trans h5)) <|
       Obls.p (fun R' w' hw hs hd => by have a1 : R' 18 = .int .i64 (0 - (y7.tmod (10 : Int))) := hd.g 0 rfl; exact of_add rfl a1 e13) <|
       Obls.p (fun R' w' hw hs hd => by have a0 : R' 19 = .int .i64 ((48 : Int) + (0 - (y7.tmod (10 : Int)))) := hd.g 0 rfl; exact of_conv_int a0 Tryd.underlying3 Tryd.underlying5) <|
       Obls.p (fun R' w' hw hs hd => by have a0 : R' 20 = .int .u8 (IntKind.u8.wrap ((48 : Int) + (0 - (y7.tmod (10 : Int))))) := hd.g 0 rfl; exact of_build [_] (E := eInt .u8) ⟨(rep_int.eq a0), trivial⟩ Tryd.underlying87 Tryd.sizeOf5 Tryd.zeroValue5 rfl rfl rfl (hA.fr hw.size)) <|
       Obls.p (fun R' w' hw hs hd => by have a0 : Rep (eSl (eInt .u8)) A w' (R' 21) ([(IntKind.u8.wrap ((48 : Int) + (0 - (y7.tmod (10 : Int)))))] : List Int) := hd.g 0 rfl; exact of_conv_bytes a0 Tryd.underlying87 Tryd.underlying5 Tryd.underlying9) <|
       Obls.p (fun R' w' hw hs hd => of_move ((hs 3 rfl).trans h3)) <|
       Obls.p (fun R' w' hw hs hd => by have a0 : Rep eStr A w' (R' 22) (strB ([(IntKind.u8.wrap ((48 : Int) + (0 - (y7.tmod (10 : Int)))))] : List Int)) := hd.g 0 rfl; have a1 : R' 23 = wl_3 := hd.g 1 rfl; have ra1 := (f_wl_3.fr hw).eq a1; exact of_cat a0 ra1 e14) <|
       Obls.p (fun R' w' hw hs hd => by have a0 : Rep eStr A w' (R' 24) ((strB ([(IntKind.u8.wrap ((48 : Int) + (0 - (y7.tmod (10 : Int)))))] : List Int)) ++ y8) := hd.g 0 rfl; exact of_assign a0) <|
       Obls.nil
     intro R w hw hs hF'
     replace h0 := (hs 0 rfl).trans h0
     replace h4 := (hs 4 rfl).trans h4
     obtain ⟨u15, h3, f_u15⟩ : ∃ u, R 3 = u ∧ Rep eStr A w u ((strB ([(IntKind.u8.wrap ((48 : Int) + (0 - (y7.tmod (10 : Int)))))] : List Int)) ++ y8) := ⟨_, rfl, hF' 7 _ _ rfl rfl rfl⟩
     replace hA := hA.fr hw.size
     replace hF := hF.trans hw
     clear hs hF' hw
     refine seqR_nil ?_
     obtain ⟨e16, hr⟩ := ck_some hr
     obtain ⟨e17, hr⟩ := ck_some hr
     refine HT.text (l := ⟨_, true, .raw (.int .i64 y7)⟩ :: ⟨_, true, .raw (.int .i64 (y7.tdiv (10 : Int)))⟩ :: ⟨_, true, .raw (.int .i64 (y7.tdiv (10 : Int)))⟩ :: []) (tl := []) (by kernel_rfl) (by kernel_rfl) (by kernel_rfl) ?_ ?_
     ·exact
       Obls.p (fun R' w' hw hs hd => of_move ((hs 0 rfl).trans h0)) <|
       Obls.p (fun R' w' hw hs hd => by have a0 : R' 25 = .int .i64 y7 := hd.g 0 rfl; exact of_quo a0 rfl e16 e17) <|
       Obls.p (fun R' w' hw hs hd => by have a0 : R' 26 = .int .i64 (y7.tdiv (10 : Int)) := hd.g 0 rfl; exact of_assign a0) <|
       Obls.nil
     intro R w hw hs hF'
     replace h3 := (hs 3 rfl).trans h3
     replace h4 := (hs 4 rfl).trans h4
     have h0 : R 0 = .int .i64 (y7.tdiv (10 : Int)) := hF' 2 _ _ rfl rfl rfl
     replace f_u15 := f_u15.fr hw
     replace hA := hA.fr hw.size
     replace hF := hF.trans hw
     clear hs hF' hw
     refine seqR_nil ?_
     exact Exists.intro k (And.intro (Nat.lt_succ_self k) ⟨_, _, u15, hr, hA, hF, h0, h3, h4, f_u15⟩)
    ·have hr := cnd_f c11 hr
     refine HT.skip ?_
     refine HT.seq ?_
     obtain ⟨e18, hr⟩ := ck_some hr
     obtain ⟨e19, hr⟩ := ck_some hr
     refine HT.text (l := ⟨_, true, .raw (.int .i64 (y7.tmod (10 : Int)))⟩ :: ⟨_, true, .raw (.int .i64 ((48 : Int) + (y7.tmod (10 : Int))))⟩ :: ⟨_, true, .raw (.int .u8 (IntKind.u8.wrap ((48 : Int) + (y7.tmod (10 : Int)))))⟩ :: ⟨_, true, .rep (eSl (eInt .u8)) A ([(IntKind.u8.wrap ((48 : Int) + (y7.tmod (10 : Int))))] : List Int)⟩ :: ⟨_, true, .rep eStr A (strB ([(IntKind.u8.wrap ((48 : Int) + (y7.tmod (10 : Int))))] : List Int))⟩ :: ⟨_, true, .raw wl_3⟩ :: ⟨_, true, .rep eStr A ((strB ([(IntKind.u8.wrap ((48 : Int) + (y7.tmod (10 : Int))))] : List Int)) ++ y8)⟩ :: ⟨_, true, .rep eStr A ((strB ([(IntKind.u8.wrap ((48 : Int) + (y7.tmod (10 : Int))))] : List Int)) ++ y8)⟩ :: []) (tl := []) (by kernel_rfl) (by kernel_rfl) (by kernel_rfl) ?_ ?_
     ·exact
       Obls.p (fun R' w' hw hs hd => of_move ((hs 5 rfl).trans h5)) <|
       Obls.p (fun R' w' hw hs hd => by have a1 : R' 18 = .int .i64 (y7.tmod (10 : Int)) := hd.g 0 rfl; exact of_add rfl a1 e18) <|
       Obls.p (fun R' w' hw hs hd => by have a0 : R' 19 = .int .i64 ((48 : Int) + (y7.tmod (10 : Int))) := hd.g 0 rfl; exact of_conv_int a0 Tryd.underlying3 Tryd.underlying5) <|
       Obls.p (fun R' w' hw hs hd => by have a0 : R' 20 = .int .u8 (IntKind.u8.wrap ((48 : Int) + (y7.tmod (10 : Int)))) := hd.g 0 rfl; exact of_build [_] (E := eInt .u8) ⟨(rep_int.eq a0), trivial⟩ Tryd.underlying87 Tryd.sizeOf5 Tryd.zeroValue5 rfl rfl rfl (hA.fr hw.size)) <|
       Obls.p (fun R' w' hw hs hd => by have a0 : Rep (eSl (eInt .u8)) A w' (R' 21) ([(IntKind.u8.wrap ((48 : Int) + (y7.tmod (10 : Int))))] : List Int) := hd.g 0 rfl; exact of_conv_bytes a0 Tryd.underlying87 Tryd.underlying5 Tryd.underlying9) <|
       Obls.p (fun R' w' hw hs hd => of_move ((hs 3 rfl).trans h3)) <|
       Obls.p (fun R' w' hw hs hd => by have a0 : Rep eStr A w' (R' 22) (strB ([(IntKind.u8.wrap ((48 : Int) + (y7.tmod (10 : Int))))] : List Int)) := hd.g 0 rfl; have a1 : R' 23 = wl_3 := hd.g 1 rfl; have ra1 := (f_wl_3.fr hw).eq a1; exact of_cat a0 ra1 e19) <|
       Obls.p (fun R' w' hw hs hd => by have a0 : Rep eStr A w' (R' 24) ((strB ([(IntKind.u8.wrap ((48 : Int) + (y7.tmod (10 : Int))))] : List Int)) ++ y8) := hd.g 0 rfl; exact of_assign a0) <|
       Obls.nil
     intro R w hw hs hF'
     replace h0 := (hs 0 rfl).trans h0
     replace h4 := (hs 4 rfl).trans h4
     obtain ⟨u20, h3, f_u20⟩ : ∃ u, R 3 = u ∧ Rep eStr A w u ((strB ([(IntKind.u8.wrap ((48 : Int) + (y7.tmod (10 : Int))))] : List Int)) ++ y8) := ⟨_, rfl, hF' 7 _ _ rfl rfl rfl⟩
     replace hA := hA.fr hw.size
     replace hF := hF.trans hw
     clear hs hF' hw
     refine seqR_nil ?_
     obtain ⟨e21, hr⟩ := ck_some hr
     obtain ⟨e22, hr⟩ := ck_some hr
     refine HT.text (l := ⟨_, true, .raw (.int .i64 y7)⟩ :: ⟨_, true, .raw (.int .i64 (y7.tdiv (10 : Int)))⟩ :: ⟨_, true, .raw (.int .i64 (y7.tdiv (10 : Int)))⟩ :: []) (tl := []) (by kernel_rfl) (by kernel_rfl) (by kernel_rfl) ?_ ?_
     ·exact
       Obls.p (fun R' w' hw hs hd => of_move ((hs 0 rfl).trans h0)) <|
       Obls.p (fun R' w' hw hs hd => by have a0 : R' 25 = .int .i64 y7 := hd.g 0 rfl; exact of_quo a0 rfl e21 e22) <|
       Obls.p (fun R' w' hw hs hd => by have a0 : R' 26 = .int .i64 (y7.tdiv (10 : Int)) := hd.g 0 rfl; exact of_assign a0) <|
       Obls.nil
     intro R w hw hs hF'
     replace h3 := (hs 3 rfl).trans h3
     replace h4 := (hs 4 rfl).trans h4
     have h0 : R 0 = .int .i64 (y7.tdiv (10 : Int)) := hF' 2 _ _ rfl rfl rfl
     replace f_u20 := f_u20.fr hw
     replace hA := hA.fr hw.size
     replace hF := hF.trans hw
     clear hs hF' hw
     refine seqR_nil ?_
     exact Exists.intro k (And.intro (Nat.lt_succ_self k) ⟨_, _, u20, hr, hA, hF, h0, h3, h4, f_u20⟩)
   ·have hr := cnd_f c9 hr
    refine HT.exit ?_
    obtain rfl := Option.some.inj hr
    exact Exists.intro _ ⟨wl_3, rfl, hA, hF, h3, h4, f_wl_3⟩
  rintro R w ⟨s6, wo_3, es, hA, hF, h3, h4, f_wo_3⟩
  obtain rfl := es.symm
  refine HT.seq ?_
  refine HT.seq ?_
  refine HT.text (l := ⟨_, true, .raw (.bool (decide (p0 < (0 : Int))))⟩ :: []) (tl := []) (by kernel_rfl) (by kernel_rfl) (by kernel_rfl) ?_ ?_
  ·exact
    Obls.p (fun R' w' hw hs hd => of_move ((hs 4 rfl).trans h4)) <|
    Obls.nil
  intro R w hw hs hF'
  replace h3 := (hs 3 rfl).trans h3
  have h27 : R 27 = .bool (decide (p0 < (0 : Int))) := hF' 0 _ _ rfl rfl rfl
  replace f_wo_3 := f_wo_3.fr hw
  replace hA := hA.fr hw.size
  replace hF := hF.trans hw
  clear hs hF' hw
  refine seqR_nil ?_
  refine HT.cond (decide (p0 < (0 : Int))) h27 (fun c23 => ?_) (fun c23 => ?_)
  ·have hr := cnd_t c23 hr
   refine HT.seq ?_
   obtain ⟨e24, hr⟩ := ck_some hr
   refine HT.text (l := ⟨_, true, .raw wo_3⟩ :: ⟨_, true, .rep eStr A (([45] : List UInt8) ++ s6)⟩ :: ⟨_, true, .rep eStr A (([45] : List UInt8) ++ s6)⟩ :: []) (tl := []) (by kernel_rfl) (by kernel_rfl) (by kernel_rfl) ?_ ?_
   ·exact
     Obls.p (fun R' w' hw hs hd => of_move ((hs 3 rfl).trans h3)) <|
     Obls.p (fun R' w' hw hs hd => by have a1 : R' 28 = wo_3 := hd.g 0 rfl; have ra1 := (f_wo_3.fr hw).eq a1; exact of_cat ⟨_, rfl, ⟨_, rfl, rfl, by decide⟩⟩ ra1 e24) <|
     Obls.p (fun R' w' hw hs hd => by have a0 : Rep eStr A w' (R' 29) (([45] : List UInt8) ++ s6) := hd.g 0 rfl; exact of_assign a0) <|
     Obls.nil
   intro R w hw hs hF'
   obtain ⟨u25, h2, f_u25⟩ : ∃ u, R 2 = u ∧ Rep eStr A w u (([45] : List UInt8) ++ s6) := ⟨_, rfl, hF' 2 _ _ rfl rfl rfl⟩
   replace hA := hA.fr hw.size
   replace hF := hF.trans hw
   clear hs hF' hw
   refine seqR_nil ?_
   refine HT.ret ?_
   obtain rfl := Option.some.inj hr
   exact ⟨.inr rfl, [R 2], ⟨rfl, trivial⟩, (f_u25.eq h2), hF⟩
  ·have hr := cnd_f c23 hr
   refine HT.skip ?_
   refine HT.seq ?_
   refine HT.text (l := ⟨_, true, .raw wo_3⟩ :: ⟨_, true, .raw wo_3⟩ :: []) (tl := []) (by kernel_rfl) (by kernel_rfl) (by kernel_rfl) ?_ ?_
   ·exact
     Obls.p (fun R' w' hw hs hd => of_move ((hs 3 rfl).trans h3)) <|
     Obls.p (fun R' w' hw hs hd => by have a0 : R' 30 = wo_3 := hd.g 0 rfl; exact of_assign a0) <|
     Obls.nil
   intro R w hw hs hF'
   have h2 : R 2 = wo_3 := hF' 1 _ _ rfl rfl rfl
   replace f_wo_3 := f_wo_3.fr hw
   replace hA := hA.fr hw.size
   replace hF := hF.trans hw
   clear hs hF' hw
   refine seqR_nil ?_
   refine HT.ret ?_
   obtain rfl := Option.some.inj hr
   exact ⟨.inr rfl, [R 2], ⟨rfl, trivial⟩, (f_wo_3.eq h2), hF⟩
def M_spec_FeatureName (fu : Nat) (p0 : Int) : Option (List UInt8) :=
 cl true (M_spec_l1In fu p0 (0 : Int) (5 : Int)) fun x1 =>
 bif (!x1) then (
  some ([] : List UInt8)
 ) else (
  ck (inR p0 ([([110, 97, 109, 101] : List UInt8), ([116, 111, 107, 101, 110, 115] : List UInt8), ([115, 111, 117, 110, 100] : List UInt8), ([99, 105, 116, 121] : List UInt8), ([121, 101, 97, 114] : List UInt8), ([112, 104, 111, 110, 101] : List UInt8)] : List (List UInt8)).length) <|
  some (gtD ([([110, 97, 109, 101] : List UInt8), ([116, 111, 107, 101, 110, 115] : List UInt8), ([115, 111, 117, 110, 100] : List UInt8), ([99, 105, 116, 121] : List UInt8), ([121, 101, 97, 114] : List UInt8), ([112, 104, 111, 110, 101] : List UInt8)] : List (List UInt8)) p0)
 )
theorem M_spec_FeatureName_ok {fu : Nat} {A : Av} {p0 : Int} {r : List UInt8} (hr : M_spec_FeatureName fu p0 = some r) {w : World} {v0 : Value} (hA : AvOK A w) (h0 : v0 = .int .i64 p0) :
  Calls Tryd.prog 31 #[v0] w fun e w' => ∃ v, e = .returned v ∧ (Rep eStr A w' v r ∧ Fr w w') := by
 unfold M_spec_FeatureName at hr
 obtain ⟨w0, hw0⟩ : ∃ w0, w0 = w := ⟨_, rfl⟩
 have hF : Fr w0 w := hw0 ▸ Fr.refl _
 rw [show Fr w = Fr w0 from hw0 ▸ rfl]
 clear hw0
 refine calls_of_HT2 [.tmp 2] Tryd.func31 Tryd.ntmps31 (by decide) rfl rfl (Nat.le_of_ble_eq_true rfl) ?_
 intro R hR
 replace h0 : R 0 = .int .i64 p0 := (hR 0 _ rfl).trans h0
 clear hR
 refine HT.seq ?_
 refine HT.text (l := ⟨_, true, .rep eStr A ([] : List UInt8)⟩ :: []) (tl := []) (by kernel_rfl) (by kernel_rfl) (by kernel_rfl) ?_ ?_
 ·exact
   Obls.p (fun R' w' hw hs hd => of_assign ⟨_, rfl, ⟨_, rfl, rfl, by decide⟩⟩) <|
   Obls.nil
 intro R w hw hs hF'
 replace h0 := (hs 0 rfl).trans h0
 replace hA := hA.fr hw.size
 replace hF := hF.trans hw
 clear hs hF' hw
 refine seqR_nil ?_
 refine HT.seq ?_
 refine HT.seq ?_
 obtain ⟨x1, q2, hr⟩ := cl_some hr
 refine HT.text (l := ⟨_, true, .raw (.int .i64 p0)⟩ :: ⟨_, true, .raw (.bool x1)⟩ :: ⟨_, true, .raw (.bool (!x1))⟩ :: []) (tl := []) (by kernel_rfl) (by kernel_rfl) (by kernel_rfl) ?_ ?_
 ·exact
   Obls.p (fun R' w' hw hs hd => of_move ((hs 0 rfl).trans h0)) <|
   Obls.p (fun R' w' hw hs hd => by have a0 : R' 3 = .int .i64 p0 := hd.g 0 rfl; exact of_call Tryd.call56 (M_spec_l1In_ok (q2 rfl) (hA.fr hw.size) a0 rfl rfl)) <|
   Obls.p (fun R' w' hw hs hd => by have a0 : R' 4 = .bool x1 := hd.g 0 rfl; exact of_not a0) <|
   Obls.nil
 intro R w hw hs hF'
 replace h0 := (hs 0 rfl).trans h0
 have h5 : R 5 = .bool (!x1) := hF' 2 _ _ rfl rfl rfl
 replace hA := hA.fr hw.size
 replace hF := hF.trans hw
 clear hs hF' hw
 refine seqR_nil ?_
 refine HT.cond (!x1) h5 (fun c3 => ?_) (fun c3 => ?_)
 ·have hr := cnd_t c3 hr
  refine HT.seq ?_
  refine HT.text (l := ⟨_, true, .rep eStr A ([] : List UInt8)⟩ :: []) (tl := []) (by kernel_rfl) (by kernel_rfl) (by kernel_rfl) ?_ ?_
  ·exact
    Obls.p (fun R' w' hw hs hd => of_assign ⟨_, rfl, ⟨_, rfl, rfl, by decide⟩⟩) <|
    Obls.nil
  intro R w hw hs hF'
  obtain ⟨u4, h2, f_u4⟩ : ∃ u, R 2 = u ∧ Rep eStr A w u ([] : List UInt8) := ⟨_, rfl, hF' 0 _ _ rfl rfl rfl⟩
  replace hA := hA.fr hw.size
  replace hF := hF.trans hw
  clear hs hF' hw
  refine seqR_nil ?_
  refine HT.ret ?_
  obtain rfl := Option.some.inj hr
  exact ⟨.inr rfl, [R 2], ⟨rfl, trivial⟩, (f_u4.eq h2), hF⟩
 ·have hr := cnd_f c3 hr
  refine HT.skip ?_
  refine HT.seq ?_
  obtain ⟨e5, hr⟩ := ck_some hr
  refine HT.text (l := ⟨_, true, .rep (eSl eStr) A ([([110, 97, 109, 101] : List UInt8), ([116, 111, 107, 101, 110, 115] : List UInt8), ([115, 111, 117, 110, 100] : List UInt8), ([99, 105, 116, 121] : List UInt8), ([121, 101, 97, 114] : List UInt8), ([112, 104, 111, 110, 101] : List UInt8)] : List (List UInt8))⟩ :: ⟨_, true, .raw (.int .i64 p0)⟩ :: ⟨_, true, .qtr eStr A (gtD ([([110, 97, 109, 101] : List UInt8), ([116, 111, 107, 101, 110, 115] : List UInt8), ([115, 111, 117, 110, 100] : List UInt8), ([99, 105, 116, 121] : List UInt8), ([121, 101, 97, 114] : List UInt8), ([112, 104, 111, 110, 101] : List UInt8)] : List (List UInt8)) p0)⟩ :: ⟨_, true, .rep eStr A (gtD ([([110, 97, 109, 101] : List UInt8), ([116, 111, 107, 101, 110, 115] : List UInt8), ([115, 111, 117, 110, 100] : List UInt8), ([99, 105, 116, 121] : List UInt8), ([121, 101, 97, 114] : List UInt8), ([112, 104, 111, 110, 101] : List UInt8)] : List (List UInt8)) p0)⟩ :: ⟨_, true, .rep eStr A (gtD ([([110, 97, 109, 101] : List UInt8), ([116, 111, 107, 101, 110, 115] : List UInt8), ([115, 111, 117, 110, 100] : List UInt8), ([99, 105, 116, 121] : List UInt8), ([121, 101, 97, 114] : List UInt8), ([112, 104, 111, 110, 101] : List UInt8)] : List (List UInt8)) p0)⟩ :: []) (tl := []) (by kernel_rfl) (by kernel_rfl) (by kernel_rfl) ?_ ?_
  ·exact
    Obls.p (fun R' w' hw hs hd => of_build [_, _, _, _, _, _] (E := eStr) ⟨⟨_, rfl, ⟨_, rfl, rfl, by decide⟩⟩, ⟨⟨_, rfl, ⟨_, rfl, rfl, by decide⟩⟩, ⟨⟨_, rfl, ⟨_, rfl, rfl, by decide⟩⟩, ⟨⟨_, rfl, ⟨_, rfl, rfl, by decide⟩⟩, ⟨⟨_, rfl, ⟨_, rfl, rfl, by decide⟩⟩, ⟨⟨_, rfl, ⟨_, rfl, rfl, by decide⟩⟩, trivial⟩⟩⟩⟩⟩⟩ Tryd.underlying57 Tryd.sizeOf9 Tryd.zeroValue9 rfl rfl rfl (hA.fr hw.size)) <|
    Obls.p (fun R' w' hw hs hd => of_move ((hs 0 rfl).trans h0)) <|
    Obls.p (fun R' w' hw hs hd => by have a0 : Rep (eSl eStr) A w' (R' 6) ([([110, 97, 109, 101] : List UInt8), ([116, 111, 107, 101, 110, 115] : List UInt8), ([115, 111, 117, 110, 100] : List UInt8), ([99, 105, 116, 121] : List UInt8), ([121, 101, 97, 114] : List UInt8), ([112, 104, 111, 110, 101] : List UInt8)] : List (List UInt8)) := hd.g 0 rfl; have a1 : R' 7 = .int .i64 p0 := hd.g 1 rfl; exact of_indexAddr a0 a1 Tryd.underlying57 Tryd.sizeOf9 e5) <|
    Obls.p (fun R' w' hw hs hd => by have a0 : QRep eStr A w' (R' 8) (gtD ([([110, 97, 109, 101] : List UInt8), ([116, 111, 107, 101, 110, 115] : List UInt8), ([115, 111, 117, 110, 100] : List UInt8), ([99, 105, 116, 121] : List UInt8), ([121, 101, 97, 114] : List UInt8), ([112, 104, 111, 110, 101] : List UInt8)] : List (List UInt8)) p0) := hd.g 0 rfl; exact (of_load a0.ptr Tryd.isAgg9 Tryd.sizeOf9)) <|
    Obls.p (fun R' w' hw hs hd => by have a0 : Rep eStr A w' (R' 9) (gtD ([([110, 97, 109, 101] : List UInt8), ([116, 111, 107, 101, 110, 115] : List UInt8), ([115, 111, 117, 110, 100] : List UInt8), ([99, 105, 116, 121] : List UInt8), ([121, 101, 97, 114] : List UInt8), ([112, 104, 111, 110, 101] : List UInt8)] : List (List UInt8)) p0) := hd.g 0 rfl; exact of_assign a0) <|
    Obls.nil
  intro R w hw hs hF'
  obtain ⟨u6, h2, f_u6⟩ : ∃ u, R 2 = u ∧ Rep eStr A w u (gtD ([([110, 97, 109, 101] : List UInt8), ([116, 111, 107, 101, 110, 115] : List UInt8), ([115, 111, 117, 110, 100] : List UInt8), ([99, 105, 116, 121] : List UInt8), ([121, 101, 97, 114] : List UInt8), ([112, 104, 111, 110, 101] : List UInt8)] : List (List UInt8)) p0) := ⟨_, rfl, hF' 4 _ _ rfl rfl rfl⟩
  replace hA := hA.fr hw.size
  replace hF := hF.trans hw
  clear hs hF' hw
  refine seqR_nil ?_
  refine HT.ret ?_
  obtain rfl := Option.some.inj hr
  exact ⟨.inr rfl, [R 2], ⟨rfl, trivial⟩, (f_u6.eq h2), hF⟩
def M_spec_FormatDiagram_L0 (fu : Nat) (p0 : T_impl_Diagram) : Nat → (List UInt8) → Int → Option (List UInt8)
 | 0, _, _ => none
 | k + 1, y13, y14 =>
  bif (decide (y14 < (p0.2.length : Int))) then (
   ck (inR y14 p0.2.length) <|
   ck (lenOK (y13 ++ ([59, 32] : List UInt8)).length) <|
   ck (i64B (y14 + (2 : Int))) <|
   cl true (M_spec_FormatInt fu (y14 + (2 : Int))) fun x22 =>
   ck (lenOK ((y13 ++ ([59, 32] : List UInt8)) ++ x22).length) <|
   ck (lenOK (((y13 ++ ([59, 32] : List UInt8)) ++ x22) ++ ([58, 32] : List UInt8)).length) <|
   cl true (M_spec_FeatureName fu ((gtD p0.2 y14).1)) fun x26 =>
   ck (lenOK ((((y13 ++ ([59, 32] : List UInt8)) ++ x22) ++ ([58, 32] : List UInt8)) ++ x26).length) <|
   ck (lenOK (((((y13 ++ ([59, 32] : List UInt8)) ++ x22) ++ ([58, 32] : List UInt8)) ++ x26) ++ ([62, 61] : List UInt8)).length) <|
   cl true (M_spec_FormatInt fu ((gtD p0.2 y14).2.1)) fun x30 =>
   ck (lenOK ((((((y13 ++ ([59, 32] : List UInt8)) ++ x22) ++ ([58, 32] : List UInt8)) ++ x26) ++ ([62, 61] : List UInt8)) ++ x30).length) <|
   ck (lenOK (((((((y13 ++ ([59, 32] : List UInt8)) ++ x22) ++ ([58, 32] : List UInt8)) ++ x26) ++ ([62, 61] : List UInt8)) ++ x30) ++ ([32] : List UInt8)).length) <|
   cl true (M_spec_FormatInt fu ((gtD p0.2 y14).2.2.2)) fun x34 =>
   ck (lenOK ((((((((y13 ++ ([59, 32] : List UInt8)) ++ x22) ++ ([58, 32] : List UInt8)) ++ x26) ++ ([62, 61] : List UInt8)) ++ x30) ++ ([32] : List UInt8)) ++ x34).length) <|
   ck (lenOK (((((((((y13 ++ ([59, 32] : List UInt8)) ++ x22) ++ ([58, 32] : List UInt8)) ++ x26) ++ ([62, 61] : List UInt8)) ++ x30) ++ ([32] : List UInt8)) ++ x34) ++ ([32] : List UInt8)).length) <|
   cl true (M_spec_FormatInt fu ((gtD p0.2 y14).2.2.1)) fun x38 =>
   ck (lenOK ((((((((((y13 ++ ([59, 32] : List UInt8)) ++ x22) ++ ([58, 32] : List UInt8)) ++ x26) ++ ([62, 61] : List UInt8)) ++ x30) ++ ([32] : List UInt8)) ++ x34) ++ ([32] : List UInt8)) ++ x38).length) <|
   ck (i64B (y14 + (1 : Int))) <|
   M_spec_FormatDiagram_L0 fu p0 k ((((((((((y13 ++ ([59, 32] : List UInt8)) ++ x22) ++ ([58, 32] : List UInt8)) ++ x26) ++ ([62, 61] : List UInt8)) ++ x30) ++ ([32] : List UInt8)) ++ x34) ++ ([32] : List UInt8)) ++ x38) (y14 + (1 : Int))
  ) else (
   some y13
  )
def M_spec_FormatDiagram (fu : Nat) (p0 : T_impl_Diagram) : Option (List UInt8) :=
 cl true (M_spec_IsValidDiagram fu p0) fun x2 =>
 bif (!x2) then (
  some ([] : List UInt8)
 ) else (
  cl true (M_spec_FormatInt fu p0.1) fun x6 =>
  ck (lenOK (([114, 111, 111, 116, 32] : List UInt8) ++ x6).length) <|
  cl true (M_spec_FormatDiagram_L0 fu p0 fu (([114, 111, 111, 116, 32] : List UInt8) ++ x6) (0 : Int)) fun s12 =>
  some s12
 )
theorem M_spec_FormatDiagram_ok {fu : Nat} {A0 : Av} {p0 : T_impl_Diagram} {r : List UInt8} (hr : M_spec_FormatDiagram fu p0 = some r) {w : World} {v0 : Value} (hA : AvOK A0 w) (h0 : Rep E_impl_Diagram A0 w v0 p0) :
  Calls Tryd.prog 13 #[v0] w fun e w' => ∃ v, e = .returned v ∧ (Rep eStr A0 w' v r ∧ Fr w w') := by
 unfold M_spec_FormatDiagram at hr
 obtain ⟨w0, hw0⟩ : ∃ w0, w0 = w := ⟨_, rfl⟩
 have hF : Fr w0 w := hw0 ▸ Fr.refl _
 have hA0 : ∀ b o, A0 b o → b < w0.heap.size := fun b o h => hw0 ▸ hA b o h
 have hA00 : AvOK A0 w0 := hA0
 rw [show Fr w = Fr w0 from hw0 ▸ rfl]
 clear hw0
 obtain ⟨A, hAe⟩ : ∃ A, A = A0 := ⟨_, rfl⟩
 have hAA : ∀ b o, A0 b o → A b o := fun b o h => hAe ▸ h
 replace hA : AvOK A w := hAe ▸ hA
 have hO : IniOK [] A w := IniOK.nil
 refine calls_of_HT2 [.tmp 2] Tryd.func13 Tryd.ntmps13 (by decide) rfl rfl (Nat.le_of_ble_eq_true rfl) ?_
 intro R hR
 have f_v0 : Rep E_impl_Diagram A w v0 p0 := hAe ▸ h0
 replace h0 : R 0 = v0 := hR 0 _ rfl
 clear hR hAe
 refine HT.seq ?_
 refine HT.textR [] (⟨_, true, [], some (.box w0.heap.size 34 E_impl_Diagram p0), true, fun A => .any⟩ :: ⟨_, true, [], none, true, fun A => .rep eStr A ([] : List UInt8)⟩ :: []) (by kernel_rfl) (by kernel_rfl) (Wf.mk' (by kernel_rfl) (UAll.cons ust_any (UAll.cons ust_rep (UAll.nil))) (by kernel_rfl) (by kernel_rfl)) hO hA ?_ ?_
 ·exact
   OblsR.cons (OblR.made _ rfl rfl rfl rfl fun A' R' w' ho hd => by have a0 : R' 0 = v0 := (ho.old 0 rfl).trans h0; have ra0 := (f_v0.stp ho.stp).eq a0; exact made_box ra0 (Nat.le_trans hF.size ho.ch.size)) <|
   OblsR.p (fun A' R' w' ho hd => of_assign ⟨_, rfl, ⟨_, rfl, rfl, by decide⟩⟩) <|
   OblsR.nil
 intro done ρ σ A R w hdn hI
 obtain ⟨b1_0, e_b1_0⟩ := hI.boxv hdn 0 rfl rfl
 have h1 : R 1 = (.pointer (some ⟨b1_0, 0, none⟩)) := (hI.opvR hdn 0 0 rfl rfl rfl rfl rfl).symm.trans e_b1_0
 replace hAA := hI.low' hAA hA0 (hO.ge (trivial))
 replace hF : Fr w0 w := hF.tr hI.ch (hO.ge (trivial))
 replace hO : IniOK [ob (.pointer (some ⟨b1_0, 0, none⟩)) (.box w0.heap.size 34 E_impl_Diagram p0)] A w := hI.left hdn [(0, ob (.pointer (some ⟨b1_0, 0, none⟩)) (.box w0.heap.size 34 E_impl_Diagram p0))] ⟨rfl, rfl, e_b1_0, rfl, rfl, trivial⟩
 replace hA := hI.avok
 clear hI
 refine HT.seq ?_
 refine HT.seq ?_
 obtain ⟨x2, q3, hr⟩ := cl_some hr
 refine HT.text (l := ⟨_, true, .rep E_impl_Diagram A p0⟩ :: ⟨_, true, .raw (.bool x2)⟩ :: ⟨_, true, .raw (.bool (!x2))⟩ :: []) (tl := []) (by kernel_rfl) (by kernel_rfl) (by kernel_rfl) ?_ ?_
 ·exact
   Obls.p (fun R' w' hw hs hd => (of_load_box ((hO.fr hw).ok 0 _ rfl).1 ((hs 1 rfl).trans h1) (Fld.id _) rfl Tryd.isAgg34 Tryd.sizeOf34)) <|
   Obls.p (fun R' w' hw hs hd => by have a0 : Rep E_impl_Diagram A w' (R' 6) p0 := hd.g 0 rfl; exact of_call Tryd.call37 (M_spec_IsValidDiagram_ok (q3 rfl) (hA.fr hw.size) a0)) <|
   Obls.p (fun R' w' hw hs hd => by have a0 : R' 7 = .bool x2 := hd.g 0 rfl; exact of_not a0) <|
   Obls.nil
 intro R w hw hs hF'
 replace h1 := (hs 1 rfl).trans h1
 have h8 : R 8 = .bool (!x2) := hF' 2 _ _ rfl rfl rfl
 replace hO := hO.fr hw
 replace hA := hA.fr hw.size
 replace hF := hF.trans hw
 clear hs hF' hw
 refine seqR_nil ?_
 refine HT.cond (!x2) h8 (fun c4 => ?_) (fun c4 => ?_)
 ·have hr := cnd_t c4 hr
  refine HT.seq ?_
  refine HT.text (l := ⟨_, true, .rep eStr A ([] : List UInt8)⟩ :: []) (tl := []) (by kernel_rfl) (by kernel_rfl) (by kernel_rfl) ?_ ?_
  ·exact
    Obls.p (fun R' w' hw hs hd => of_assign ⟨_, rfl, ⟨_, rfl, rfl, by decide⟩⟩) <|
    Obls.nil
  intro R w hw hs hF'
  obtain ⟨u5, h2, f_u5⟩ : ∃ u, R 2 = u ∧ Rep eStr A w u ([] : List UInt8) := ⟨_, rfl, hF' 0 _ _ rfl rfl rfl⟩
  replace hO := hO.fr hw
  replace hO : IniOK [] A w := hO.sub [] trivial
  replace hA := hA.fr hw.size
  replace hF := hF.trans hw
  clear hs hF' hw
  refine seqR_nil ?_
  refine HT.ret ?_
  obtain rfl := Option.some.inj hr
  exact ⟨.inr rfl, [R 2], ⟨rfl, trivial⟩, (f_u5.eq h2).down hAA, hF⟩
 ·have hr := cnd_f c4 hr
  refine HT.skip ?_
  refine HT.seq ?_
  obtain ⟨x6, q7, hr⟩ := cl_some hr
  obtain ⟨e8, hr⟩ := ck_some hr
  refine HT.text (l := ⟨_, true, .raw (.pointer (some ⟨b1_0, 0, none⟩))⟩ :: ⟨_, true, .raw (.int .i64 p0.1)⟩ :: ⟨_, true, .rep eStr A x6⟩ :: ⟨_, true, .rep eStr A (([114, 111, 111, 116, 32] : List UInt8) ++ x6)⟩ :: ⟨_, true, .rep eStr A (([114, 111, 111, 116, 32] : List UInt8) ++ x6)⟩ :: []) (tl := []) (by kernel_rfl) (by kernel_rfl) (by kernel_rfl) ?_ ?_
  ·exact
    Obls.p (fun R' w' hw hs hd => of_fieldAddr_raw ((hs 1 rfl).trans h1) ff_34_0 Tryd.sizeOf3 (by decide) rfl) <|
    Obls.p (fun R' w' hw hs hd => by have a0 : R' 9 = (.pointer (some ⟨b1_0, 0, none⟩)) := hd.g 0 rfl; exact OpF.int (of_load_box ((hO.fr hw).ok 0 _ rfl).1 a0 fl_impl_Diagram_0 rfl Tryd.isAgg3 Tryd.sizeOf3)) <|
    Obls.p (fun R' w' hw hs hd => by have a0 : R' 10 = .int .i64 p0.1 := hd.g 0 rfl; exact of_call Tryd.call32 (M_spec_FormatInt_ok (q7 rfl) (hA.fr hw.size) a0)) <|
    Obls.p (fun R' w' hw hs hd => by have a1 : Rep eStr A w' (R' 11) x6 := hd.g 0 rfl; exact of_cat ⟨_, rfl, ⟨_, rfl, rfl, by decide⟩⟩ a1 e8) <|
    Obls.p (fun R' w' hw hs hd => by have a0 : Rep eStr A w' (R' 12) (([114, 111, 111, 116, 32] : List UInt8) ++ x6) := hd.g 0 rfl; exact of_assign a0) <|
    Obls.nil
  intro R w hw hs hF'
  replace h1 := (hs 1 rfl).trans h1
  obtain ⟨u9, h3, f_u9⟩ : ∃ u, R 3 = u ∧ Rep eStr A w u (([114, 111, 111, 116, 32] : List UInt8) ++ x6) := ⟨_, rfl, hF' 4 _ _ rfl rfl rfl⟩
  replace hO := hO.fr hw
  replace hA := hA.fr hw.size
  replace hF := hF.trans hw
  clear hs hF' hw
  refine seqR_nil ?_
  refine HT.seq ?_
  refine HT.seq ?_
  refine HT.text (l := ⟨_, true, .raw (.int .i64 (0 : Int))⟩ :: []) (tl := []) (by kernel_rfl) (by kernel_rfl) (by kernel_rfl) ?_ ?_
  ·exact
    Obls.p (fun R' w' hw hs hd => of_assign rfl) <|
    Obls.nil
  intro R w hw hs hF'
  replace h1 := (hs 1 rfl).trans h1
  replace h3 := (hs 3 rfl).trans h3
  have h4 : R 4 = .int .i64 (0 : Int) := hF' 0 _ _ rfl rfl rfl
  replace f_u9 := f_u9.fr hw
  replace hO := hO.fr hw
  replace hA := hA.fr hw.size
  replace hF := hF.trans hw
  clear hs hF' hw
  refine seqR_nil ?_
  obtain ⟨rl10, q11, hr⟩ := cl_some hr
  replace q11 := q11 rfl
  refine HT.cut0 (fun R w => ∃ A : Av, ∃ (s12 : (List UInt8)) (wo_3 : Value), rl10 = s12 ∧ AvOK A w ∧ Fr w0 w ∧ (∀ b o, A0 b o → A b o) ∧ IniOK [] A w ∧ R 3 = wo_3 ∧ Rep eStr A w wo_3 s12) ?_ ?_
  ·refine HT.block ?_
   refine HT.loop (fun k R w => ∃ A : Av, ∃ (y13 : List UInt8) (y14 : Int) (wl_3 : Value), M_spec_FormatDiagram_L0 fu p0 k y13 y14 = some rl10 ∧ AvOK A w ∧ Fr w0 w ∧ (∀ b o, A0 b o → A b o) ∧ IniOK [ob (.pointer (some ⟨b1_0, 0, none⟩)) (.box w0.heap.size 34 E_impl_Diagram p0)] A w ∧ R 1 = (.pointer (some ⟨b1_0, 0, none⟩)) ∧ R 3 = wl_3 ∧ R 4 = .int .i64 y14 ∧ Rep eStr A w wl_3 y13) fu ⟨_, _, _, u9, q11, hA, hF, hAA, hO, h1, h3, h4, f_u9⟩ ?_
   have hr0 := hr; clear hr q11
   rintro k R w ⟨A, y13, y14, wl_3, hr, hA, hF, hAA, hO, h1, h3, h4, f_wl_3⟩
   rcases k with _ | k
   ·cases (show none = some _ from hr)
   rw [M_spec_FormatDiagram_L0] at hr
   refine HT.seq ?_
   refine HT.seq ?_
   refine HT.text (l := ⟨_, true, .raw (.int .i64 y14)⟩ :: ⟨_, true, .raw (.pointer (some ⟨b1_0, 1, none⟩))⟩ :: ⟨_, true, .rep (eSl E_impl_DiagramNode) A p0.2⟩ :: ⟨_, true, .raw (.int .i64 (p0.2.length : Int))⟩ :: ⟨_, true, .raw (.bool (decide (y14 < (p0.2.length : Int))))⟩ :: []) (tl := []) (by kernel_rfl) (by kernel_rfl) (by kernel_rfl) ?_ ?_
   ·exact
     Obls.p (fun R' w' hw hs hd => of_move ((hs 4 rfl).trans h4)) <|
     Obls.p (fun R' w' hw hs hd => of_fieldAddr_raw ((hs 1 rfl).trans h1) ff_34_1 Tryd.sizeOf32 (by decide) rfl) <|
     Obls.p (fun R' w' hw hs hd => by have a0 : R' 14 = (.pointer (some ⟨b1_0, 1, none⟩)) := hd.g 0 rfl; exact (of_load_box ((hO.fr hw).ok 0 _ rfl).1 a0 fl_impl_Diagram_1 rfl Tryd.isAgg32 Tryd.sizeOf32)) <|
     Obls.p (fun R' w' hw hs hd => by have a0 : Rep (eSl E_impl_DiagramNode) A w' (R' 15) p0.2 := hd.g 0 rfl; exact of_len_sl (aT := #[]) a0 Tryd.underlying32) <|
     Obls.p (fun R' w' hw hs hd => by have a0 : R' 13 = .int .i64 y14 := hd.g 0 rfl; have a1 : R' 16 = .int .i64 (p0.2.length : Int) := hd.g 1 rfl; exact of_lss a0 a1) <|
     Obls.nil
   intro R w hw hs hF'
   replace h1 := (hs 1 rfl).trans h1
   replace h3 := (hs 3 rfl).trans h3
   replace h4 := (hs 4 rfl).trans h4
   have h17 : R 17 = .bool (decide (y14 < (p0.2.length : Int))) := hF' 4 _ _ rfl rfl rfl
   replace f_wl_3 := f_wl_3.fr hw
   replace hO := hO.fr hw
   replace hA := hA.fr hw.size
   replace hF := hF.trans hw
   clear hs hF' hw
   refine seqR_nil ?_
   refine HT.cond (decide (y14 < (p0.2.length : Int))) h17 (fun c15 => ?_) (fun c15 => ?_)
   ·have hr := cnd_t c15 hr
    refine HT.skip ?_
    refine HT.seq ?_
    refine HT.block ?_
    refine HT.seq ?_
    obtain ⟨e16, hr⟩ := ck_some hr
    refine HT.textR [ob (.pointer (some ⟨b1_0, 0, none⟩)) (.box w0.heap.size 34 E_impl_Diagram p0)] (⟨_, true, [], none, true, fun A => .raw (.pointer (some ⟨b1_0, 1, none⟩))⟩ :: ⟨_, true, [], none, true, fun A => .rep (eSl E_impl_DiagramNode) A p0.2⟩ :: ⟨_, true, [], none, true, fun A => .raw (.int .i64 y14)⟩ :: ⟨_, true, [], none, true, fun A => .qtr E_impl_DiagramNode A (gtD p0.2 y14)⟩ :: ⟨_, true, [], none, true, fun A => .rep E_impl_DiagramNode A (gtD p0.2 y14)⟩ :: ⟨_, true, [], some (.box w0.heap.size 63 E_impl_DiagramNode ((0 : Int), ((0 : Int), ((0 : Int), (0 : Int))))), true, fun A => .any⟩ :: ⟨_, true, [6], some (.box w0.heap.size 63 E_impl_DiagramNode (gtD p0.2 y14)), false, fun A => .any⟩ :: []) (by kernel_rfl) (by kernel_rfl) (Wf.mk' (by kernel_rfl) (UAll.cons ust_raw (UAll.cons ust_rep (UAll.cons ust_raw (UAll.cons ust_qtr (UAll.cons ust_rep (UAll.cons ust_any (UAll.cons ust_any (UAll.nil)))))))) (by kernel_rfl) (by kernel_rfl)) hO hA ?_ ?_
    ·exact
      OblsR.p (fun A' R' w' ho hd => of_fieldAddr_raw ((ho.old 1 rfl).trans h1) ff_34_1 Tryd.sizeOf32 (by decide) rfl) <|
      OblsR.p (fun A' R' w' ho hd => by have a0 : R' 20 = (.pointer (some ⟨b1_0, 1, none⟩)) := hd.g 0 rfl; exact (of_load_box (ho.rd 0 _ rfl rfl) a0 fl_impl_Diagram_1 rfl Tryd.isAgg32 Tryd.sizeOf32)) <|
      OblsR.p (fun A' R' w' ho hd => of_move ((ho.old 4 rfl).trans h4)) <|
      OblsR.p (fun A' R' w' ho hd => by have a0 : Rep (eSl E_impl_DiagramNode) A' w' (R' 21) p0.2 := hd.g 0 rfl; have a1 : R' 22 = .int .i64 y14 := hd.g 1 rfl; exact of_indexAddr a0 a1 Tryd.underlying32 Tryd.sizeOf63 e16) <|
      OblsR.p (fun A' R' w' ho hd => by have a0 : QRep E_impl_DiagramNode A' w' (R' 23) (gtD p0.2 y14) := hd.g 0 rfl; exact (of_load a0.ptr Tryd.isAgg63 Tryd.sizeOf63)) <|
      OblsR.cons (OblR.made _ rfl rfl rfl rfl fun A' R' w' ho hd => by exact made_alloc Tryd.zeroValue63 (fun A w => rep_pr rep1_int (rep_pr rep1_int (rep_pr rep1_int rep1_int))) (Nat.le_trans hF.size ho.ch.size)) <|
      OblsR.cons (OblR.took 6 _ _ rfl rfl rfl rfl rfl fun A' R' w' ho hd u hok hav hin hop hds => by have a1 : Rep E_impl_DiagramNode A' w' (R' 24) (gtD p0.2 y14) := hd.g 1 rfl; obtain ⟨b, hb, hB', hbx⟩ := hok; have hop' := hop _ _ rfl rfl rfl rfl; exact took_store a1 (hop'.symm.trans hb) hb ⟨b, hb, hB', hbx⟩ hav (FldS.id _) Tryd.sizeOf63 rfl) <|
      OblsR.nil
    intro done ρ σ A R w hdn hI
    replace h1 : R 1 = (.pointer (some ⟨b1_0, 0, none⟩)) := (hI.reg rfl).trans h1
    replace h3 : R 3 = wl_3 := (hI.reg rfl).trans h3
    replace h4 : R 4 = .int .i64 y14 := (hI.reg rfl).trans h4
    have z17 := hI.inivR 0 rfl
    obtain ⟨b5_17, e_b5_17⟩ := hI.boxv hdn 7 rfl rfl
    have z19 := (hI.opnR hdn 7 6 rfl rfl rfl rfl rfl).symm.trans e_b5_17
    have h5 : R 5 = (.pointer (some ⟨b5_17, 0, none⟩)) := (hI.opvR hdn 6 5 rfl rfl rfl rfl rfl).symm.trans z19
    replace f_wl_3 := f_wl_3.stp hI.stp
    replace hAA := hI.low' hAA hA0 (hO.ge (⟨rfl, trivial⟩))
    replace hF : Fr w0 w := hF.tr hI.ch (hO.ge (⟨rfl, trivial⟩))
    replace hO : IniOK [ob (.pointer (some ⟨b1_0, 0, none⟩)) (.box w0.heap.size 34 E_impl_Diagram p0), ob (.pointer (some ⟨b5_17, 0, none⟩)) (.box w0.heap.size 63 E_impl_DiagramNode (gtD p0.2 y14))] A w := hI.left hdn [(0, ob (.pointer (some ⟨b1_0, 0, none⟩)) (.box w0.heap.size 34 E_impl_Diagram p0)), (7, ob (.pointer (some ⟨b5_17, 0, none⟩)) (.box w0.heap.size 63 E_impl_DiagramNode (gtD p0.2 y14)))] ⟨rfl, rfl, z17, rfl, rfl, ⟨rfl, rfl, e_b5_17, rfl, rfl, trivial⟩⟩
    replace hA := hI.avok
    clear hI
    obtain ⟨e20, hr⟩ := ck_some hr
    obtain ⟨e21, hr⟩ := ck_some hr
    obtain ⟨x22, q23, hr⟩ := cl_some hr
    obtain ⟨e24, hr⟩ := ck_some hr
    obtain ⟨e25, hr⟩ := ck_some hr
    obtain ⟨x26, q27, hr⟩ := cl_some hr
    obtain ⟨e28, hr⟩ := ck_some hr
    obtain ⟨e29, hr⟩ := ck_some hr
    obtain ⟨x30, q31, hr⟩ := cl_some hr
    obtain ⟨e32, hr⟩ := ck_some hr
    obtain ⟨e33, hr⟩ := ck_some hr
    obtain ⟨x34, q35, hr⟩ := cl_some hr
    obtain ⟨e36, hr⟩ := ck_some hr
    obtain ⟨e37, hr⟩ := ck_some hr
    obtain ⟨x38, q39, hr⟩ := cl_some hr
    obtain ⟨e40, hr⟩ := ck_some hr
    refine HT.draw (by kernel_rfl) (l := ⟨_, true, .raw wl_3⟩ :: ⟨_, true, .rep eStr A (y13 ++ ([59, 32] : List UInt8))⟩ :: ⟨_, true, .raw (.int .i64 y14)⟩ :: ⟨_, true, .raw (.int .i64 (y14 + (2 : Int)))⟩ :: ⟨_, true, .rep eStr A x22⟩ :: ⟨_, true, .rep eStr A ((y13 ++ ([59, 32] : List UInt8)) ++ x22)⟩ :: ⟨_, true, .rep eStr A (((y13 ++ ([59, 32] : List UInt8)) ++ x22) ++ ([58, 32] : List UInt8))⟩ :: ⟨_, true, .raw (.pointer (some ⟨b5_17, 0, none⟩))⟩ :: ⟨_, true, .raw (.int .i64 ((gtD p0.2 y14).1))⟩ :: ⟨_, true, .rep eStr A x26⟩ :: ⟨_, true, .rep eStr A ((((y13 ++ ([59, 32] : List UInt8)) ++ x22) ++ ([58, 32] : List UInt8)) ++ x26)⟩ :: ⟨_, true, .rep eStr A (((((y13 ++ ([59, 32] : List UInt8)) ++ x22) ++ ([58, 32] : List UInt8)) ++ x26) ++ ([62, 61] : List UInt8))⟩ :: ⟨_, true, .raw (.pointer (some ⟨b5_17, 1, none⟩))⟩ :: ⟨_, true, .raw (.int .i64 ((gtD p0.2 y14).2.1))⟩ :: ⟨_, true, .rep eStr A x30⟩ :: ⟨_, true, .rep eStr A ((((((y13 ++ ([59, 32] : List UInt8)) ++ x22) ++ ([58, 32] : List UInt8)) ++ x26) ++ ([62, 61] : List UInt8)) ++ x30)⟩ :: ⟨_, true, .rep eStr A (((((((y13 ++ ([59, 32] : List UInt8)) ++ x22) ++ ([58, 32] : List UInt8)) ++ x26) ++ ([62, 61] : List UInt8)) ++ x30) ++ ([32] : List UInt8))⟩ :: ⟨_, true, .raw (.pointer (some ⟨b5_17, 3, none⟩))⟩ :: ⟨_, true, .raw (.int .i64 ((gtD p0.2 y14).2.2.2))⟩ :: ⟨_, true, .rep eStr A x34⟩ :: ⟨_, true, .rep eStr A ((((((((y13 ++ ([59, 32] : List UInt8)) ++ x22) ++ ([58, 32] : List UInt8)) ++ x26) ++ ([62, 61] : List UInt8)) ++ x30) ++ ([32] : List UInt8)) ++ x34)⟩ :: ⟨_, true, .rep eStr A (((((((((y13 ++ ([59, 32] : List UInt8)) ++ x22) ++ ([58, 32] : List UInt8)) ++ x26) ++ ([62, 61] : List UInt8)) ++ x30) ++ ([32] : List UInt8)) ++ x34) ++ ([32] : List UInt8))⟩ :: ⟨_, true, .raw (.pointer (some ⟨b5_17, 2, none⟩))⟩ :: ⟨_, true, .raw (.int .i64 ((gtD p0.2 y14).2.2.1))⟩ :: ⟨_, true, .rep eStr A x38⟩ :: ⟨_, true, .rep eStr A ((((((((((y13 ++ ([59, 32] : List UInt8)) ++ x22) ++ ([58, 32] : List UInt8)) ++ x26) ++ ([62, 61] : List UInt8)) ++ x30) ++ ([32] : List UInt8)) ++ x34) ++ ([32] : List UInt8)) ++ x38)⟩ :: ⟨_, true, .rep eStr A ((((((((((y13 ++ ([59, 32] : List UInt8)) ++ x22) ++ ([58, 32] : List UInt8)) ++ x26) ++ ([62, 61] : List UInt8)) ++ x30) ++ ([32] : List UInt8)) ++ x34) ++ ([32] : List UInt8)) ++ x38)⟩ :: []) (tl := []) (by kernel_rfl) (by kernel_rfl) (by kernel_rfl) (by kernel_rfl) ?_ ?_
    ·exact
      Obls.p (fun R' w' hw hs hd => of_move ((hs 3 rfl).trans h3)) <|
      Obls.p (fun R' w' hw hs hd => by have a0 : R' 25 = wl_3 := hd.g 0 rfl; have ra0 := (f_wl_3.fr hw).eq a0; exact of_cat ra0 ⟨_, rfl, ⟨_, rfl, rfl, by decide⟩⟩ e20) <|
      Obls.p (fun R' w' hw hs hd => of_move ((hs 4 rfl).trans h4)) <|
      Obls.p (fun R' w' hw hs hd => by have a0 : R' 27 = .int .i64 y14 := hd.g 0 rfl; exact of_add a0 rfl e21) <|
      Obls.p (fun R' w' hw hs hd => by have a0 : R' 28 = .int .i64 (y14 + (2 : Int)) := hd.g 0 rfl; exact of_call Tryd.call32 (M_spec_FormatInt_ok (q23 rfl) (hA.fr hw.size) a0)) <|
      Obls.p (fun R' w' hw hs hd => by have a0 : Rep eStr A w' (R' 26) (y13 ++ ([59, 32] : List UInt8)) := hd.g 0 rfl; have a1 : Rep eStr A w' (R' 29) x22 := hd.g 1 rfl; exact of_cat a0 a1 e24) <|
      Obls.p (fun R' w' hw hs hd => by have a0 : Rep eStr A w' (R' 30) ((y13 ++ ([59, 32] : List UInt8)) ++ x22) := hd.g 0 rfl; exact of_cat a0 ⟨_, rfl, ⟨_, rfl, rfl, by decide⟩⟩ e25) <|
      Obls.p (fun R' w' hw hs hd => of_fieldAddr_raw ((hs 5 rfl).trans h5) ff_63_0 Tryd.sizeOf3 (by decide) rfl) <|
      Obls.p (fun R' w' hw hs hd => by have a0 : R' 32 = (.pointer (some ⟨b5_17, 0, none⟩)) := hd.g 0 rfl; exact OpF.int (of_load_box ((hO.fr hw).ok 1 _ rfl).1 a0 fl_impl_DiagramNode_0 rfl Tryd.isAgg3 Tryd.sizeOf3)) <|
      Obls.p (fun R' w' hw hs hd => by have a0 : R' 33 = .int .i64 ((gtD p0.2 y14).1) := hd.g 0 rfl; exact of_call Tryd.call31 (M_spec_FeatureName_ok (q27 rfl) (hA.fr hw.size) a0)) <|
      Obls.p (fun R' w' hw hs hd => by have a0 : Rep eStr A w' (R' 31) (((y13 ++ ([59, 32] : List UInt8)) ++ x22) ++ ([58, 32] : List UInt8)) := hd.g 0 rfl; have a1 : Rep eStr A w' (R' 34) x26 := hd.g 1 rfl; exact of_cat a0 a1 e28) <|
      Obls.p (fun R' w' hw hs hd => by have a0 : Rep eStr A w' (R' 35) ((((y13 ++ ([59, 32] : List UInt8)) ++ x22) ++ ([58, 32] : List UInt8)) ++ x26) := hd.g 0 rfl; exact of_cat a0 ⟨_, rfl, ⟨_, rfl, rfl, by decide⟩⟩ e29) <|
      Obls.p (fun R' w' hw hs hd => of_fieldAddr_raw ((hs 5 rfl).trans h5) ff_63_1 Tryd.sizeOf3 (by decide) rfl) <|
      Obls.p (fun R' w' hw hs hd => by have a0 : R' 37 = (.pointer (some ⟨b5_17, 1, none⟩)) := hd.g 0 rfl; exact OpF.int (of_load_box ((hO.fr hw).ok 1 _ rfl).1 a0 fl_impl_DiagramNode_1 rfl Tryd.isAgg3 Tryd.sizeOf3)) <|
      Obls.p (fun R' w' hw hs hd => by have a0 : R' 38 = .int .i64 ((gtD p0.2 y14).2.1) := hd.g 0 rfl; exact of_call Tryd.call32 (M_spec_FormatInt_ok (q31 rfl) (hA.fr hw.size) a0)) <|
      Obls.p (fun R' w' hw hs hd => by have a0 : Rep eStr A w' (R' 36) (((((y13 ++ ([59, 32] : List UInt8)) ++ x22) ++ ([58, 32] : List UInt8)) ++ x26) ++ ([62, 61] : List UInt8)) := hd.g 0 rfl; have a1 : Rep eStr A w' (R' 39) x30 := hd.g 1 rfl; exact of_cat a0 a1 e32) <|
      Obls.p (fun R' w' hw hs hd => by have a0 : Rep eStr A w' (R' 40) ((((((y13 ++ ([59, 32] : List UInt8)) ++ x22) ++ ([58, 32] : List UInt8)) ++ x26) ++ ([62, 61] : List UInt8)) ++ x30) := hd.g 0 rfl; exact of_cat a0 ⟨_, rfl, ⟨_, rfl, rfl, by decide⟩⟩ e33) <|
      Obls.p (fun R' w' hw hs hd => of_fieldAddr_raw ((hs 5 rfl).trans h5) ff_63_3 Tryd.sizeOf3 (by decide) rfl) <|
      Obls.p (fun R' w' hw hs hd => by have a0 : R' 42 = (.pointer (some ⟨b5_17, 3, none⟩)) := hd.g 0 rfl; exact OpF.int (of_load_box ((hO.fr hw).ok 1 _ rfl).1 a0 fl_impl_DiagramNode_3 rfl Tryd.isAgg3 Tryd.sizeOf3)) <|
      Obls.p (fun R' w' hw hs hd => by have a0 : R' 43 = .int .i64 ((gtD p0.2 y14).2.2.2) := hd.g 0 rfl; exact of_call Tryd.call32 (M_spec_FormatInt_ok (q35 rfl) (hA.fr hw.size) a0)) <|
      Obls.p (fun R' w' hw hs hd => by have a0 : Rep eStr A w' (R' 41) (((((((y13 ++ ([59, 32] : List UInt8)) ++ x22) ++ ([58, 32] : List UInt8)) ++ x26) ++ ([62, 61] : List UInt8)) ++ x30) ++ ([32] : List UInt8)) := hd.g 0 rfl; have a1 : Rep eStr A w' (R' 44) x34 := hd.g 1 rfl; exact of_cat a0 a1 e36) <|
      Obls.p (fun R' w' hw hs hd => by have a0 : Rep eStr A w' (R' 45) ((((((((y13 ++ ([59, 32] : List UInt8)) ++ x22) ++ ([58, 32] : List UInt8)) ++ x26) ++ ([62, 61] : List UInt8)) ++ x30) ++ ([32] : List UInt8)) ++ x34) := hd.g 0 rfl; exact of_cat a0 ⟨_, rfl, ⟨_, rfl, rfl, by decide⟩⟩ e37) <|
      Obls.p (fun R' w' hw hs hd => of_fieldAddr_raw ((hs 5 rfl).trans h5) ff_63_2 Tryd.sizeOf3 (by decide) rfl) <|
      Obls.p (fun R' w' hw hs hd => by have a0 : R' 47 = (.pointer (some ⟨b5_17, 2, none⟩)) := hd.g 0 rfl; exact OpF.int (of_load_box ((hO.fr hw).ok 1 _ rfl).1 a0 fl_impl_DiagramNode_2 rfl Tryd.isAgg3 Tryd.sizeOf3)) <|
      Obls.p (fun R' w' hw hs hd => by have a0 : R' 48 = .int .i64 ((gtD p0.2 y14).2.2.1) := hd.g 0 rfl; exact of_call Tryd.call32 (M_spec_FormatInt_ok (q39 rfl) (hA.fr hw.size) a0)) <|
      Obls.p (fun R' w' hw hs hd => by have a0 : Rep eStr A w' (R' 46) (((((((((y13 ++ ([59, 32] : List UInt8)) ++ x22) ++ ([58, 32] : List UInt8)) ++ x26) ++ ([62, 61] : List UInt8)) ++ x30) ++ ([32] : List UInt8)) ++ x34) ++ ([32] : List UInt8)) := hd.g 0 rfl; have a1 : Rep eStr A w' (R' 49) x38 := hd.g 1 rfl; exact of_cat a0 a1 e40) <|
      Obls.p (fun R' w' hw hs hd => by have a0 : Rep eStr A w' (R' 50) ((((((((((y13 ++ ([59, 32] : List UInt8)) ++ x22) ++ ([58, 32] : List UInt8)) ++ x26) ++ ([62, 61] : List UInt8)) ++ x30) ++ ([32] : List UInt8)) ++ x34) ++ ([32] : List UInt8)) ++ x38) := hd.g 0 rfl; exact of_assign a0) <|
      Obls.nil
    intro R w hw hs hF'
    replace h1 := (hs 1 rfl).trans h1
    replace h4 := (hs 4 rfl).trans h4
    obtain ⟨u41, h3, f_u41⟩ : ∃ u, R 3 = u ∧ Rep eStr A w u ((((((((((y13 ++ ([59, 32] : List UInt8)) ++ x22) ++ ([58, 32] : List UInt8)) ++ x26) ++ ([62, 61] : List UInt8)) ++ x30) ++ ([32] : List UInt8)) ++ x34) ++ ([32] : List UInt8)) ++ x38) := ⟨_, rfl, hF' 26 _ _ rfl rfl rfl⟩
    replace hO := hO.fr hw
    replace hO : IniOK [ob (.pointer (some ⟨b1_0, 0, none⟩)) (.box w0.heap.size 34 E_impl_Diagram p0)] A w := hO.sub [(0, ob (.pointer (some ⟨b1_0, 0, none⟩)) (.box w0.heap.size 34 E_impl_Diagram p0))] ⟨rfl, rfl, trivial⟩
    replace hA := hA.fr hw.size
    replace hF := hF.trans hw
    clear hs hF' hw
    refine seqR_nil ?_
    obtain ⟨e42, hr⟩ := ck_some hr
    refine HT.text (l := ⟨_, true, .raw (.int .i64 y14)⟩ :: ⟨_, true, .raw (.int .i64 (y14 + (1 : Int)))⟩ :: ⟨_, true, .raw (.int .i64 (y14 + (1 : Int)))⟩ :: []) (tl := []) (by kernel_rfl) (by kernel_rfl) (by kernel_rfl) ?_ ?_
    ·exact
      Obls.p (fun R' w' hw hs hd => of_move ((hs 4 rfl).trans h4)) <|
      Obls.p (fun R' w' hw hs hd => by have a0 : R' 18 = .int .i64 y14 := hd.g 0 rfl; exact of_add a0 rfl e42) <|
      Obls.p (fun R' w' hw hs hd => by have a0 : R' 19 = .int .i64 (y14 + (1 : Int)) := hd.g 0 rfl; exact of_assign a0) <|
      Obls.nil
    intro R w hw hs hF'
    replace h1 := (hs 1 rfl).trans h1
    replace h3 := (hs 3 rfl).trans h3
    have h4 : R 4 = .int .i64 (y14 + (1 : Int)) := hF' 2 _ _ rfl rfl rfl
    replace f_u41 := f_u41.fr hw
    replace hO := hO.fr hw
    replace hA := hA.fr hw.size
    replace hF := hF.trans hw
    clear hs hF' hw
    refine seqR_nil ?_
    exact Exists.intro k (And.intro (Nat.lt_succ_self k) ⟨_, _, _, u41, hr, hA, hF, hAA, hO, h1, h3, h4, f_u41⟩)
   ·have hr := cnd_f c15 hr
    refine HT.exit ?_
    obtain rfl := Option.some.inj hr
    replace hO : IniOK [] A w := hO.sub [] trivial
    exact Exists.intro _ ⟨_, wl_3, rfl, hA, hF, hAA, hO, h3, f_wl_3⟩
  rintro R w ⟨A, s12, wo_3, es, hA, hF, hAA, hO, h3, f_wo_3⟩
  obtain rfl := es.symm
  refine HT.seq ?_
  refine HT.text (l := ⟨_, true, .raw wo_3⟩ :: ⟨_, true, .raw wo_3⟩ :: []) (tl := []) (by kernel_rfl) (by kernel_rfl) (by kernel_rfl) ?_ ?_
  ·exact
    Obls.p (fun R' w' hw hs hd => of_move ((hs 3 rfl).trans h3)) <|
    Obls.p (fun R' w' hw hs hd => by have a0 : R' 51 = wo_3 := hd.g 0 rfl; exact of_assign a0) <|
    Obls.nil
  intro R w hw hs hF'
  have h2 : R 2 = wo_3 := hF' 1 _ _ rfl rfl rfl
  replace f_wo_3 := f_wo_3.fr hw
  replace hO := hO.fr hw
  replace hA := hA.fr hw.size
  replace hF := hF.trans hw
  clear hs hF' hw
  refine seqR_nil ?_
  refine HT.ret ?_
  obtain rfl := Option.some.inj hr
  exact ⟨.inr rfl, [R 2], ⟨rfl, trivial⟩, (f_wo_3.eq h2).down hAA, hF⟩
def M_impl_within (fu : Nat) (p0 : Int) (p1 : Int) (p2 : Int) : Option Bool :=
 bd ((decide (p1 ≤ p0)) && (decide (p0 ≤ p2))) fun x1 =>
 some x1
theorem M_impl_within_ok {fu : Nat} {A : Av} {p0 : Int} {p1 : Int} {p2 : Int} {r : Bool} (hr : M_impl_within fu p0 p1 p2 = some r) {w : World} {v0 : Value} {v1 : Value} {v2 : Value} (hA : AvOK A w) (h0 : v0 = .int .i64 p0) (h1 : v1 = .int .i64 p1) (h2 : v2 = .int .i64 p2) :
  Calls Tryd.prog 59 #[v0, v1, v2] w fun e w' => ∃ v, e = .returned v ∧ (v = .bool r ∧ Fr w w') := by
 unfold M_impl_within at hr
 obtain ⟨w0, hw0⟩ : ∃ w0, w0 = w := ⟨_, rfl⟩
 have hF : Fr w0 w := hw0 ▸ Fr.refl _
 rw [show Fr w = Fr w0 from hw0 ▸ rfl]
 clear hw0
 refine calls_of_HT2 [.tmp 6] Tryd.func59 Tryd.ntmps59 (by decide) rfl rfl (Nat.le_of_ble_eq_true rfl) ?_
 intro R hR
 replace h0 : R 0 = .int .i64 p0 := (hR 0 _ rfl).trans h0
 replace h1 : R 1 = .int .i64 p1 := (hR 1 _ rfl).trans h1
 replace h2 : R 2 = .int .i64 p2 := (hR 2 _ rfl).trans h2
 clear hR
 refine HT.seq ?_
 refine HT.text (l := ⟨_, true, .raw (.bool false)⟩ :: []) (tl := []) (by kernel_rfl) (by kernel_rfl) (by kernel_rfl) ?_ ?_
 ·exact
   Obls.p (fun R' w' hw hs hd => of_assign rfl) <|
   Obls.nil
 intro R w hw hs hF'
 replace h0 := (hs 0 rfl).trans h0
 replace h1 := (hs 1 rfl).trans h1
 replace h2 := (hs 2 rfl).trans h2
 replace hA := hA.fr hw.size
 replace hF := hF.trans hw
 clear hs hF' hw
 refine seqR_nil ?_
 refine HT.seq ?_
 obtain ⟨x1, q2, hr⟩ := bd_some hr
 refine HT.text (l := ⟨_, true, .raw (.int .i64 p0)⟩ :: ⟨_, true, .raw (.int .i64 p1)⟩ :: ⟨_, true, .raw (.bool (decide (p1 ≤ p0)))⟩ :: ⟨_, true, .raw (.bool (decide (p1 ≤ p0)))⟩ :: ⟨_, (true && ((decide (p1 ≤ p0)) == true)), .raw (.int .i64 p0)⟩ :: ⟨_, (true && ((decide (p1 ≤ p0)) == true)), .raw (.int .i64 p2)⟩ :: ⟨_, (true && ((decide (p1 ≤ p0)) == true)), .raw (.bool (decide (p0 ≤ p2)))⟩ :: ⟨_, true, .raw (.bool x1)⟩ :: ⟨_, true, .raw (.bool x1)⟩ :: []) (tl := []) (by kernel_rfl) (by kernel_rfl) (by kernel_rfl) ?_ ?_
 ·exact
   Obls.p (fun R' w' hw hs hd => of_move ((hs 0 rfl).trans h0)) <|
   Obls.p (fun R' w' hw hs hd => of_move ((hs 1 rfl).trans h1)) <|
   Obls.p (fun R' w' hw hs hd => by have a0 : R' 7 = .int .i64 p0 := hd.g 0 rfl; have a1 : R' 8 = .int .i64 p1 := hd.g 1 rfl; exact of_geq a0 a1) <|
   Obls.p (fun R' w' hw hs hd => by have a0 : R' 9 = .bool (decide (p1 ≤ p0)) := hd.g 0 rfl; exact of_move a0) <|
   Obls.cons (Obl.grd 3 true _ _ _ rfl rfl rfl rfl rfl (by kernel_rfl) fun hg R' w' hw hs hd => by have a0 : R' 0 = .int .i64 p0 := (hs 0 rfl).trans h0; exact of_move a0) <|
   Obls.cons (Obl.grd 3 true _ _ _ rfl rfl rfl rfl rfl (by kernel_rfl) fun hg R' w' hw hs hd => by have a0 : R' 2 = .int .i64 p2 := (hs 2 rfl).trans h2; exact of_move a0) <|
   Obls.cons (Obl.grd 3 true _ _ _ rfl rfl rfl rfl rfl (by kernel_rfl) fun hg R' w' hw hs hd => by have a0 : R' 11 = .int .i64 p0 := hd 0 _ _ _ rfl rfl rfl rfl hg; have a1 : R' 12 = .int .i64 p2 := hd 1 _ _ _ rfl rfl rfl rfl hg; exact of_leq a0 a1) <|
   Obls.p (fun R' w' hw hs hd => by have a0 : R' 10 = .bool (decide (p1 ≤ p0)) := hd.g 0 rfl; exact of_pick (decide (p1 ≤ p0)) a0 (fun hc => by have a1 : R' 13 = .bool (decide (p0 ≤ p2)) := hd 1 _ _ _ rfl rfl rfl rfl (g_and rfl (beq_of hc)); show _ = Value.bool x1; rw [q2, hc]; exact a1) (fun hc => by show _ = Value.bool x1; rw [q2, hc]; exact rfl)) <|
   Obls.p (fun R' w' hw hs hd => by have a0 : R' 14 = .bool x1 := hd.g 0 rfl; exact of_assign a0) <|
   Obls.nil
 intro R w hw hs hF'
 have h6 : R 6 = .bool x1 := hF' 8 _ _ rfl rfl rfl
 replace hA := hA.fr hw.size
 replace hF := hF.trans hw
 clear hs hF' hw
 refine seqR_nil ?_
 refine HT.ret ?_
 obtain rfl := Option.some.inj hr
 exact ⟨.inr rfl, [R 6], ⟨rfl, trivial⟩, h6, hF⟩
def M_impl_isFeature (fu : Nat) (p0 : Int) : Option Bool :=
 cl true (M_impl_within fu p0 (0 : Int) (5 : Int)) fun x1 =>
 some x1
theorem M_impl_isFeature_ok {fu : Nat} {A : Av} {p0 : Int} {r : Bool} (hr : M_impl_isFeature fu p0 = some r) {w : World} {v0 : Value} (hA : AvOK A w) (h0 : v0 = .int .i64 p0) :
  Calls Tryd.prog 66 #[v0] w fun e w' => ∃ v, e = .returned v ∧ (v = .bool r ∧ Fr w w') := by
 unfold M_impl_isFeature at hr
 obtain ⟨w0, hw0⟩ : ∃ w0, w0 = w := ⟨_, rfl⟩
 have hF : Fr w0 w := hw0 ▸ Fr.refl _
 rw [show Fr w = Fr w0 from hw0 ▸ rfl]
 clear hw0
 refine calls_of_HT2 [.tmp 2] Tryd.func66 Tryd.ntmps66 (by decide) rfl rfl (Nat.le_of_ble_eq_true rfl) ?_
 intro R hR
 replace h0 : R 0 = .int .i64 p0 := (hR 0 _ rfl).trans h0
 clear hR
 refine HT.seq ?_
 refine HT.text (l := ⟨_, true, .raw (.bool false)⟩ :: []) (tl := []) (by kernel_rfl) (by kernel_rfl) (by kernel_rfl) ?_ ?_
 ·exact
   Obls.p (fun R' w' hw hs hd => of_assign rfl) <|
   Obls.nil
 intro R w hw hs hF'
 replace h0 := (hs 0 rfl).trans h0
 replace hA := hA.fr hw.size
 replace hF := hF.trans hw
 clear hs hF' hw
 refine seqR_nil ?_
 refine HT.seq ?_
 obtain ⟨x1, q2, hr⟩ := cl_some hr
 refine HT.text (l := ⟨_, true, .raw (.int .i64 p0)⟩ :: ⟨_, true, .raw (.bool x1)⟩ :: ⟨_, true, .raw (.bool x1)⟩ :: []) (tl := []) (by kernel_rfl) (by kernel_rfl) (by kernel_rfl) ?_ ?_
 ·exact
   Obls.p (fun R' w' hw hs hd => of_move ((hs 0 rfl).trans h0)) <|
   Obls.p (fun R' w' hw hs hd => by have a0 : R' 3 = .int .i64 p0 := hd.g 0 rfl; exact of_call Tryd.call59 (M_impl_within_ok (q2 rfl) (hA.fr hw.size) a0 rfl rfl)) <|
   Obls.p (fun R' w' hw hs hd => by have a0 : R' 4 = .bool x1 := hd.g 0 rfl; exact of_assign a0) <|
   Obls.nil
 intro R w hw hs hF'
 have h2 : R 2 = .bool x1 := hF' 2 _ _ rfl rfl rfl
 replace hA := hA.fr hw.size
 replace hF := hF.trans hw
 clear hs hF' hw
 refine seqR_nil ?_
 refine HT.ret ?_
 obtain rfl := Option.some.inj hr
 exact ⟨.inr rfl, [R 2], ⟨rfl, trivial⟩, h2, hF⟩
def M_impl_isThreshold (fu : Nat) (p0 : Int) : Option Bool :=
 cl true (M_impl_within fu p0 (1 : Int) (1000 : Int)) fun x1 =>
 some x1
theorem M_impl_isThreshold_ok {fu : Nat} {A : Av} {p0 : Int} {r : Bool} (hr : M_impl_isThreshold fu p0 = some r) {w : World} {v0 : Value} (hA : AvOK A w) (h0 : v0 = .int .i64 p0) :
  Calls Tryd.prog 67 #[v0] w fun e w' => ∃ v, e = .returned v ∧ (v = .bool r ∧ Fr w w') := by
 unfold M_impl_isThreshold at hr
 obtain ⟨w0, hw0⟩ : ∃ w0, w0 = w := ⟨_, rfl⟩
 have hF : Fr w0 w := hw0 ▸ Fr.refl _
 rw [show Fr w = Fr w0 from hw0 ▸ rfl]
 clear hw0
 refine calls_of_HT2 [.tmp 2] Tryd.func67 Tryd.ntmps67 (by decide) rfl rfl (Nat.le_of_ble_eq_true rfl) ?_
 intro R hR
 replace h0 : R 0 = .int .i64 p0 := (hR 0 _ rfl).trans h0
 clear hR
 refine HT.seq ?_
 refine HT.text (l := ⟨_, true, .raw (.bool false)⟩ :: []) (tl := []) (by kernel_rfl) (by kernel_rfl) (by kernel_rfl) ?_ ?_
 ·exact
   Obls.p (fun R' w' hw hs hd => of_assign rfl) <|
   Obls.nil
 intro R w hw hs hF'
 replace h0 := (hs 0 rfl).trans h0
 replace hA := hA.fr hw.size
 replace hF := hF.trans hw
 clear hs hF' hw
 refine seqR_nil ?_
 refine HT.seq ?_
 obtain ⟨x1, q2, hr⟩ := cl_some hr
 refine HT.text (l := ⟨_, true, .raw (.int .i64 p0)⟩ :: ⟨_, true, .raw (.bool x1)⟩ :: ⟨_, true, .raw (.bool x1)⟩ :: []) (tl := []) (by kernel_rfl) (by kernel_rfl) (by kernel_rfl) ?_ ?_
 ·exact
   Obls.p (fun R' w' hw hs hd => of_move ((hs 0 rfl).trans h0)) <|
   Obls.p (fun R' w' hw hs hd => by have a0 : R' 3 = .int .i64 p0 := hd.g 0 rfl; exact of_call Tryd.call59 (M_impl_within_ok (q2 rfl) (hA.fr hw.size) a0 rfl rfl)) <|
   Obls.p (fun R' w' hw hs hd => by have a0 : R' 4 = .bool x1 := hd.g 0 rfl; exact of_assign a0) <|
   Obls.nil
 intro R w hw hs hF'
 have h2 : R 2 = .bool x1 := hF' 2 _ _ rfl rfl rfl
 replace hA := hA.fr hw.size
 replace hF := hF.trans hw
 clear hs hF' hw
 refine seqR_nil ?_
 refine HT.ret ?_
 obtain rfl := Option.some.inj hr
 exact ⟨.inr rfl, [R 2], ⟨rfl, trivial⟩, h2, hF⟩
def M_slices_Index_impl_DiagramNode_impl_DiagramNode_L0 (fu : Nat) (p0 : List T_impl_DiagramNode) (p1 : T_impl_DiagramNode) : Nat → Int → Option (Ex Int Unit)
 | 0, _ => none
 | k + 1, y5 =>
  bif (decide (y5 < (p0.length : Int))) then (
   ck (inR y5 p0.length) <|
   bif (p1 == (gtD p0 y5)) then (
    some (Ex.ret y5)
   ) else (
    ck (i64B (y5 + (1 : Int))) <|
    M_slices_Index_impl_DiagramNode_impl_DiagramNode_L0 fu p0 p1 k (y5 + (1 : Int))
   )
  ) else (
   some (Ex.go ())
  )
def M_slices_Index_impl_DiagramNode_impl_DiagramNode (fu : Nat) (p0 : List T_impl_DiagramNode) (p1 : T_impl_DiagramNode) : Option Int :=
 cl true (M_slices_Index_impl_DiagramNode_impl_DiagramNode_L0 fu p0 p1 fu (0 : Int)) fun rl2 =>
 exM rl2 (fun r => some r) fun s4 =>
 some (-1 : Int)
theorem M_slices_Index_impl_DiagramNode_impl_DiagramNode_ok {fu : Nat} {A0 : Av} {p0 : List T_impl_DiagramNode} {p1 : T_impl_DiagramNode} {r : Int} (hr : M_slices_Index_impl_DiagramNode_impl_DiagramNode fu p0 p1 = some r) {w : World} {v0 : Value} {v1 : Value} (hA : AvOK A0 w) (h0 : Rep (eSl E_impl_DiagramNode) A0 w v0 p0) (h1 : Rep E_impl_DiagramNode A0 w v1 p1) :
  Calls Tryd.prog 84 #[v0, v1] w fun e w' => ∃ v, e = .returned v ∧ (v = .int .i64 r ∧ Fr w w') := by
 unfold M_slices_Index_impl_DiagramNode_impl_DiagramNode at hr
 obtain ⟨w0, hw0⟩ : ∃ w0, w0 = w := ⟨_, rfl⟩
 have hF : Fr w0 w := hw0 ▸ Fr.refl _
 have hA0 : ∀ b o, A0 b o → b < w0.heap.size := fun b o h => hw0 ▸ hA b o h
 have hA00 : AvOK A0 w0 := hA0
 rw [show Fr w = Fr w0 from hw0 ▸ rfl]
 clear hw0
 obtain ⟨A, hAe⟩ : ∃ A, A = A0 := ⟨_, rfl⟩
 have hAA : ∀ b o, A0 b o → A b o := fun b o h => hAe ▸ h
 replace hA : AvOK A w := hAe ▸ hA
 have hO : IniOK [] A w := IniOK.nil
 refine calls_of_HT2 [.tmp 4] Tryd.func84 Tryd.ntmps84 (by decide) rfl rfl (Nat.le_of_ble_eq_true rfl) ?_
 intro R hR
 have f_v0 : Rep (eSl E_impl_DiagramNode) A w v0 p0 := hAe ▸ h0
 replace h0 : R 0 = v0 := hR 0 _ rfl
 have f_v1 : Rep E_impl_DiagramNode A w v1 p1 := hAe ▸ h1
 replace h1 : R 1 = v1 := hR 1 _ rfl
 clear hR hAe
 refine HT.seq ?_
 refine HT.textR [] (⟨_, true, [], some (.box w0.heap.size 63 E_impl_DiagramNode p1), true, fun A => .any⟩ :: ⟨_, true, [], none, true, fun A => .raw (.int .i64 (0 : Int))⟩ :: []) (by kernel_rfl) (by kernel_rfl) (Wf.mk' (by kernel_rfl) (UAll.cons ust_any (UAll.cons ust_raw (UAll.nil))) (by kernel_rfl) (by kernel_rfl)) hO hA ?_ ?_
 ·exact
   OblsR.cons (OblR.made _ rfl rfl rfl rfl fun A' R' w' ho hd => by have a0 : R' 1 = v1 := (ho.old 1 rfl).trans h1; have ra0 := (f_v1.stp ho.stp).eq a0; exact made_box ra0 (Nat.le_trans hF.size ho.ch.size)) <|
   OblsR.p (fun A' R' w' ho hd => of_assign rfl) <|
   OblsR.nil
 intro done ρ σ A R w hdn hI
 replace h0 : R 0 = v0 := (hI.reg rfl).trans h0
 obtain ⟨b3_0, e_b3_0⟩ := hI.boxv hdn 0 rfl rfl
 have h3 : R 3 = (.pointer (some ⟨b3_0, 0, none⟩)) := (hI.opvR hdn 0 0 rfl rfl rfl rfl rfl).symm.trans e_b3_0
 replace f_v0 := f_v0.stp hI.stp
 replace hAA := hI.low' hAA hA0 (hO.ge (trivial))
 replace hF : Fr w0 w := hF.tr hI.ch (hO.ge (trivial))
 replace hO : IniOK [ob (.pointer (some ⟨b3_0, 0, none⟩)) (.box w0.heap.size 63 E_impl_DiagramNode p1)] A w := hI.left hdn [(0, ob (.pointer (some ⟨b3_0, 0, none⟩)) (.box w0.heap.size 63 E_impl_DiagramNode p1))] ⟨rfl, rfl, e_b3_0, rfl, rfl, trivial⟩
 replace hA := hI.avok
 clear hI
 refine HT.seq ?_
 refine HT.seq ?_
 refine HT.text (l := ⟨_, true, .raw v0⟩ :: ⟨_, true, .raw (.int .i64 (p0.length : Int))⟩ :: ⟨_, true, .raw (.int .i64 (0 : Int))⟩ :: []) (tl := []) (by kernel_rfl) (by kernel_rfl) (by kernel_rfl) ?_ ?_
 ·exact
   Obls.p (fun R' w' hw hs hd => of_move ((hs 0 rfl).trans h0)) <|
   Obls.p (fun R' w' hw hs hd => by have a0 : R' 6 = v0 := hd.g 0 rfl; have ra0 := (f_v0.fr hw).eq a0; exact of_len_sl (aT := #[]) ra0 Tryd.underlying32) <|
   Obls.p (fun R' w' hw hs hd => of_move rfl) <|
   Obls.nil
 intro R w hw hs hF'
 replace h0 := (hs 0 rfl).trans h0
 replace h3 := (hs 3 rfl).trans h3
 have h7 : R 7 = .int .i64 (p0.length : Int) := hF' 1 _ _ rfl rfl rfl
 have h8 : R 8 = .int .i64 (0 : Int) := hF' 2 _ _ rfl rfl rfl
 replace f_v0 := f_v0.fr hw
 replace hO := hO.fr hw
 replace hA := hA.fr hw.size
 replace hF := hF.trans hw
 clear hs hF' hw
 refine seqR_nil ?_
 obtain ⟨rl2, q3, hr⟩ := cl_some hr
 replace q3 := q3 rfl
 refine HT.cut0 (fun R w => ∃ A : Av, ∃ (s4 : Unit), rl2 = Ex.go s4 ∧ AvOK A w ∧ Fr w0 w ∧ (∀ b o, A0 b o → A b o) ∧ IniOK [] A w) ?_ ?_
 ·refine HT.block ?_
  refine HT.loop (fun k R w => ∃ A : Av, ∃ (y5 : Int), M_slices_Index_impl_DiagramNode_impl_DiagramNode_L0 fu p0 p1 k y5 = some rl2 ∧ AvOK A w ∧ Fr w0 w ∧ (∀ b o, A0 b o → A b o) ∧ IniOK [ob (.pointer (some ⟨b3_0, 0, none⟩)) (.box w0.heap.size 63 E_impl_DiagramNode p1)] A w ∧ R 0 = v0 ∧ R 3 = (.pointer (some ⟨b3_0, 0, none⟩)) ∧ R 7 = .int .i64 (p0.length : Int) ∧ R 8 = .int .i64 y5 ∧ Rep (eSl E_impl_DiagramNode) A w v0 p0) fu ⟨_, _, q3, hA, hF, hAA, hO, h0, h3, h7, h8, f_v0⟩ ?_
  have hr0 := hr; clear hr q3
  rintro k R w ⟨A, y5, hr, hA, hF, hAA, hO, h0, h3, h7, h8, f_v0⟩
  rcases k with _ | k
  ·cases (show none = some _ from hr)
  rw [M_slices_Index_impl_DiagramNode_impl_DiagramNode_L0] at hr
  refine HT.seq ?_
  refine HT.text (l := ⟨_, true, .raw (.bool (decide (y5 < (p0.length : Int))))⟩ :: []) (tl := []) (by kernel_rfl) (by kernel_rfl) (by kernel_rfl) ?_ ?_
  ·exact
    Obls.p (fun R' w' hw hs hd => of_lss ((hs 8 rfl).trans h8) ((hs 7 rfl).trans h7)) <|
    Obls.nil
  intro R w hw hs hF'
  replace h0 := (hs 0 rfl).trans h0
  replace h3 := (hs 3 rfl).trans h3
  replace h7 := (hs 7 rfl).trans h7
  replace h8 := (hs 8 rfl).trans h8
  have h9 : R 9 = .bool (decide (y5 < (p0.length : Int))) := hF' 0 _ _ rfl rfl rfl
  replace f_v0 := f_v0.fr hw
  replace hO := hO.fr hw
  replace hA := hA.fr hw.size
  replace hF := hF.trans hw
  clear hs hF' hw
  refine seqR_nil ?_
  refine HT.seq ?_
  refine HT.cond (decide (y5 < (p0.length : Int))) h9 (fun c6 => ?_) (fun c6 => ?_)
  ·have hr := cnd_t c6 hr
   refine HT.skip ?_
   refine HT.seq ?_
   refine HT.block ?_
   refine HT.seq ?_
   refine HT.text (l := ⟨_, true, .raw (.int .i64 y5)⟩ :: ⟨_, true, .raw (.int .i64 y5)⟩ :: []) (tl := []) (by kernel_rfl) (by kernel_rfl) (by kernel_rfl) ?_ ?_
   ·exact
     Obls.p (fun R' w' hw hs hd => of_move ((hs 8 rfl).trans h8)) <|
     Obls.p (fun R' w' hw hs hd => by have a0 : R' 10 = .int .i64 y5 := hd.g 0 rfl; exact of_assign a0) <|
     Obls.nil
   intro R w hw hs hF'
   replace h0 := (hs 0 rfl).trans h0
   replace h3 := (hs 3 rfl).trans h3
   replace h7 := (hs 7 rfl).trans h7
   replace h8 := (hs 8 rfl).trans h8
   have h5 : R 5 = .int .i64 y5 := hF' 1 _ _ rfl rfl rfl
   replace f_v0 := f_v0.fr hw
   replace hO := hO.fr hw
   replace hA := hA.fr hw.size
   replace hF := hF.trans hw
   clear hs hF' hw
   refine seqR_nil ?_
   refine HT.seq ?_
   obtain ⟨e7, hr⟩ := ck_some hr
   refine HT.draw (by kernel_rfl) (l := ⟨_, true, .rep E_impl_DiagramNode A p1⟩ :: ⟨_, true, .raw v0⟩ :: ⟨_, true, .raw (.int .i64 y5)⟩ :: ⟨_, true, .qtr E_impl_DiagramNode A (gtD p0 y5)⟩ :: ⟨_, true, .rep E_impl_DiagramNode A (gtD p0 y5)⟩ :: ⟨_, true, .raw (.bool (p1 == (gtD p0 y5)))⟩ :: []) (tl := []) (by kernel_rfl) (by kernel_rfl) (by kernel_rfl) (by kernel_rfl) ?_ ?_
   ·exact
     Obls.p (fun R' w' hw hs hd => (of_load_box ((hO.fr hw).ok 0 _ rfl).1 ((hs 3 rfl).trans h3) (Fld.id _) rfl Tryd.isAgg63 Tryd.sizeOf63)) <|
     Obls.p (fun R' w' hw hs hd => of_move ((hs 0 rfl).trans h0)) <|
     Obls.p (fun R' w' hw hs hd => of_move ((hs 5 rfl).trans h5)) <|
     Obls.p (fun R' w' hw hs hd => by have a0 : R' 12 = v0 := hd.g 0 rfl; have a1 : R' 13 = .int .i64 y5 := hd.g 1 rfl; have ra0 := (f_v0.fr hw).eq a0; exact of_indexAddr ra0 a1 Tryd.underlying32 Tryd.sizeOf63 e7) <|
     Obls.p (fun R' w' hw hs hd => by have a0 : QRep E_impl_DiagramNode A w' (R' 14) (gtD p0 y5) := hd.g 0 rfl; exact (of_load a0.ptr Tryd.isAgg63 Tryd.sizeOf63)) <|
     Obls.p (fun R' w' hw hs hd => by have a0 : Rep E_impl_DiagramNode A w' (R' 11) p1 := hd.g 0 rfl; have a1 : Rep E_impl_DiagramNode A w' (R' 15) (gtD p0 y5) := hd.g 1 rfl; exact of_struct_eql Tryd.eqGuardType63 (val_impl_DiagramNode a0) (val_impl_DiagramNode a1) (eql_63 p1 (gtD p0 y5) _)) <|
     Obls.nil
   intro R w hw hs hF'
   replace h0 := (hs 0 rfl).trans h0
   replace h3 := (hs 3 rfl).trans h3
   replace h5 := (hs 5 rfl).trans h5
   replace h7 := (hs 7 rfl).trans h7
   replace h8 := (hs 8 rfl).trans h8
   have h16 : R 16 = .bool (p1 == (gtD p0 y5)) := hF' 5 _ _ rfl rfl rfl
   replace f_v0 := f_v0.fr hw
   replace hO := hO.fr hw
   replace hA := hA.fr hw.size
   replace hF := hF.trans hw
   clear hs hF' hw
   refine seqR_nil ?_
   refine HT.cond (p1 == (gtD p0 y5)) h16 (fun c8 => ?_) (fun c8 => ?_)
   ·have hr := cnd_t c8 hr
    refine HT.seq ?_
    refine HT.text (l := ⟨_, true, .raw (.int .i64 y5)⟩ :: ⟨_, true, .raw (.int .i64 y5)⟩ :: []) (tl := []) (by kernel_rfl) (by kernel_rfl) (by kernel_rfl) ?_ ?_
    ·exact
      Obls.p (fun R' w' hw hs hd => of_move ((hs 5 rfl).trans h5)) <|
      Obls.p (fun R' w' hw hs hd => by have a0 : R' 17 = .int .i64 y5 := hd.g 0 rfl; exact of_assign a0) <|
      Obls.nil
    intro R w hw hs hF'
    have h4 : R 4 = .int .i64 y5 := hF' 1 _ _ rfl rfl rfl
    replace hO := hO.fr hw
    replace hO : IniOK [] A w := hO.sub [] trivial
    replace hA := hA.fr hw.size
    replace hF := hF.trans hw
    clear hs hF' hw
    refine seqR_nil ?_
    refine HT.ret ?_
    obtain rfl := Option.some.inj hr
    have hr := hr0
    replace hr : some _ = some _ := hr
    obtain rfl := Option.some.inj hr
    exact ⟨.inr rfl, [R 4], ⟨rfl, trivial⟩, h4, hF⟩
   ·have hr := cnd_f c8 hr
    refine HT.skip ?_
    obtain ⟨e9, hr⟩ := ck_some hr
    refine HT.text (l := ⟨_, true, .raw (.int .i64 (y5 + (1 : Int)))⟩ :: ⟨_, true, .raw (.int .i64 (y5 + (1 : Int)))⟩ :: []) (tl := []) (by kernel_rfl) (by kernel_rfl) (by kernel_rfl) ?_ ?_
    ·exact
      Obls.p (fun R' w' hw hs hd => of_add ((hs 8 rfl).trans h8) rfl e9) <|
      Obls.p (fun R' w' hw hs hd => by have a0 : R' 18 = .int .i64 (y5 + (1 : Int)) := hd.g 0 rfl; exact of_move a0) <|
      Obls.nil
    intro R w hw hs hF'
    replace h0 := (hs 0 rfl).trans h0
    replace h3 := (hs 3 rfl).trans h3
    replace h7 := (hs 7 rfl).trans h7
    have h8 : R 8 = .int .i64 (y5 + (1 : Int)) := hF' 1 _ _ rfl rfl rfl
    replace f_v0 := f_v0.fr hw
    replace hO := hO.fr hw
    replace hA := hA.fr hw.size
    replace hF := hF.trans hw
    clear hs hF' hw
    refine seqR_nil ?_
    exact Exists.intro k (And.intro (Nat.lt_succ_self k) ⟨_, _, hr, hA, hF, hAA, hO, h0, h3, h7, h8, f_v0⟩)
  ·have hr := cnd_f c6 hr
   refine HT.exit ?_
   obtain rfl := Option.some.inj hr
   replace hO : IniOK [] A w := hO.sub [] trivial
   exact Exists.intro _ ⟨_, rfl, hA, hF, hAA, hO⟩
 rintro R w ⟨A, s4, rfl, hA, hF, hAA, hO⟩
 have hr := exM_go hr
 refine HT.seq ?_
 refine HT.text (l := ⟨_, true, .raw (.int .i64 (-1 : Int))⟩ :: []) (tl := []) (by kernel_rfl) (by kernel_rfl) (by kernel_rfl) ?_ ?_
 ·exact
   Obls.p (fun R' w' hw hs hd => of_assign rfl) <|
   Obls.nil
 intro R w hw hs hF'
 have h4 : R 4 = .int .i64 (-1 : Int) := hF' 0 _ _ rfl rfl rfl
 replace hO := hO.fr hw
 replace hA := hA.fr hw.size
 replace hF := hF.trans hw
 clear hs hF' hw
 refine seqR_nil ?_
 refine HT.ret ?_
 obtain rfl := Option.some.inj hr
 exact ⟨.inr rfl, [R 4], ⟨rfl, trivial⟩, h4, hF⟩
def M_slices_Contains_impl_DiagramNode_impl_DiagramNode (fu : Nat) (p0 : List T_impl_DiagramNode) (p1 : T_impl_DiagramNode) : Option Bool :=
 cl true (M_slices_Index_impl_DiagramNode_impl_DiagramNode fu p0 p1) fun x2 =>
 some (decide ((0 : Int) ≤ x2))
theorem M_slices_Contains_impl_DiagramNode_impl_DiagramNode_ok {fu : Nat} {A0 : Av} {p0 : List T_impl_DiagramNode} {p1 : T_impl_DiagramNode} {r : Bool} (hr : M_slices_Contains_impl_DiagramNode_impl_DiagramNode fu p0 p1 = some r) {w : World} {v0 : Value} {v1 : Value} (hA : AvOK A0 w) (h0 : Rep (eSl E_impl_DiagramNode) A0 w v0 p0) (h1 : Rep E_impl_DiagramNode A0 w v1 p1) :
  Calls Tryd.prog 68 #[v0, v1] w fun e w' => ∃ v, e = .returned v ∧ (v = .bool r ∧ Fr w w') := by
 unfold M_slices_Contains_impl_DiagramNode_impl_DiagramNode at hr
 obtain ⟨w0, hw0⟩ : ∃ w0, w0 = w := ⟨_, rfl⟩
 have hF : Fr w0 w := hw0 ▸ Fr.refl _
 have hA0 : ∀ b o, A0 b o → b < w0.heap.size := fun b o h => hw0 ▸ hA b o h
 have hA00 : AvOK A0 w0 := hA0
 rw [show Fr w = Fr w0 from hw0 ▸ rfl]
 clear hw0
 obtain ⟨A, hAe⟩ : ∃ A, A = A0 := ⟨_, rfl⟩
 have hAA : ∀ b o, A0 b o → A b o := fun b o h => hAe ▸ h
 replace hA : AvOK A w := hAe ▸ hA
 have hO : IniOK [] A w := IniOK.nil
 refine calls_of_HT2 [.tmp 4] Tryd.func68 Tryd.ntmps68 (by decide) rfl rfl (Nat.le_of_ble_eq_true rfl) ?_
 intro R hR
 have f_v0 : Rep (eSl E_impl_DiagramNode) A w v0 p0 := hAe ▸ h0
 replace h0 : R 0 = v0 := hR 0 _ rfl
 have f_v1 : Rep E_impl_DiagramNode A w v1 p1 := hAe ▸ h1
 replace h1 : R 1 = v1 := hR 1 _ rfl
 clear hR hAe
 refine HT.seq ?_
 refine HT.textR [] (⟨_, true, [], some (.box w0.heap.size 63 E_impl_DiagramNode p1), true, fun A => .any⟩ :: ⟨_, true, [], none, true, fun A => .raw (.bool false)⟩ :: []) (by kernel_rfl) (by kernel_rfl) (Wf.mk' (by kernel_rfl) (UAll.cons ust_any (UAll.cons ust_raw (UAll.nil))) (by kernel_rfl) (by kernel_rfl)) hO hA ?_ ?_
 ·exact
   OblsR.cons (OblR.made _ rfl rfl rfl rfl fun A' R' w' ho hd => by have a0 : R' 1 = v1 := (ho.old 1 rfl).trans h1; have ra0 := (f_v1.stp ho.stp).eq a0; exact made_box ra0 (Nat.le_trans hF.size ho.ch.size)) <|
   OblsR.p (fun A' R' w' ho hd => of_assign rfl) <|
   OblsR.nil
 intro done ρ σ A R w hdn hI
 replace h0 : R 0 = v0 := (hI.reg rfl).trans h0
 obtain ⟨b3_0, e_b3_0⟩ := hI.boxv hdn 0 rfl rfl
 have h3 : R 3 = (.pointer (some ⟨b3_0, 0, none⟩)) := (hI.opvR hdn 0 0 rfl rfl rfl rfl rfl).symm.trans e_b3_0
 replace f_v0 := f_v0.stp hI.stp
 replace hAA := hI.low' hAA hA0 (hO.ge (trivial))
 replace hF : Fr w0 w := hF.tr hI.ch (hO.ge (trivial))
 replace hO : IniOK [ob (.pointer (some ⟨b3_0, 0, none⟩)) (.box w0.heap.size 63 E_impl_DiagramNode p1)] A w := hI.left hdn [(0, ob (.pointer (some ⟨b3_0, 0, none⟩)) (.box w0.heap.size 63 E_impl_DiagramNode p1))] ⟨rfl, rfl, e_b3_0, rfl, rfl, trivial⟩
 replace hA := hI.avok
 clear hI
 refine HT.seq ?_
 obtain ⟨x2, q3, hr⟩ := cl_some hr
 refine HT.text (l := ⟨_, true, .raw v0⟩ :: ⟨_, true, .rep E_impl_DiagramNode A p1⟩ :: ⟨_, true, .raw (.int .i64 x2)⟩ :: ⟨_, true, .raw (.bool (decide ((0 : Int) ≤ x2)))⟩ :: ⟨_, true, .raw (.bool (decide ((0 : Int) ≤ x2)))⟩ :: []) (tl := []) (by kernel_rfl) (by kernel_rfl) (by kernel_rfl) ?_ ?_
 ·exact
   Obls.p (fun R' w' hw hs hd => of_move ((hs 0 rfl).trans h0)) <|
   Obls.p (fun R' w' hw hs hd => (of_load_box ((hO.fr hw).ok 0 _ rfl).1 ((hs 3 rfl).trans h3) (Fld.id _) rfl Tryd.isAgg63 Tryd.sizeOf63)) <|
   Obls.p (fun R' w' hw hs hd => by have a0 : R' 5 = v0 := hd.g 0 rfl; have ra0 := (f_v0.fr hw).eq a0; have a1 : Rep E_impl_DiagramNode A w' (R' 6) p1 := hd.g 1 rfl; exact of_call Tryd.call84 (M_slices_Index_impl_DiagramNode_impl_DiagramNode_ok (q3 rfl) (hA.fr hw.size) ra0 a1)) <|
   Obls.p (fun R' w' hw hs hd => by have a0 : R' 7 = .int .i64 x2 := hd.g 0 rfl; exact of_geq a0 rfl) <|
   Obls.p (fun R' w' hw hs hd => by have a0 : R' 8 = .bool (decide ((0 : Int) ≤ x2)) := hd.g 0 rfl; exact of_assign a0) <|
   Obls.nil
 intro R w hw hs hF'
 have h4 : R 4 = .bool (decide ((0 : Int) ≤ x2)) := hF' 4 _ _ rfl rfl rfl
 replace hO := hO.fr hw
 replace hO : IniOK [] A w := hO.sub [] trivial
 replace hA := hA.fr hw.size
 replace hF := hF.trans hw
 clear hs hF' hw
 refine seqR_nil ?_
 refine HT.ret ?_
 obtain rfl := Option.some.inj hr
 exact ⟨.inr rfl, [R 4], ⟨rfl, trivial⟩, h4, hF⟩
end Go.Proofs.YtjdnomcpepbdaaaDoor
