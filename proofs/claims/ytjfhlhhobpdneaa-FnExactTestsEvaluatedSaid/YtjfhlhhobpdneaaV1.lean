/- Printed by dec.py: plain functions and the proofs that the code computes them. No statement of the seat is proved here. -/
import Derived.Test.YtjfhlhhobpdneaaTy
namespace Go.Proofs.Ytjfhlhhobpdneaa
open Go.RowKit
set_option linter.unusedVariables false
def M_laws_szDiagramNodeS (fu : Nat) (p0 : List T_impl_DiagramNode) (p1 : Int) : Option Int :=
  ck (i64B (p1 - (p0.length : Int))) <|
  bif (decide ((p1 - (p0.length : Int)) < (0 : Int))) then (
    some (-1 : Int)
  ) else (
    some (p1 - (p0.length : Int))
  )
set_option maxRecDepth 100000 in
set_option maxHeartbeats 4000000 in
theorem M_laws_szDiagramNodeS_ok {fu : Nat} {A : Av} {p0 : List T_impl_DiagramNode} {p1 : Int} {r : Int} (hr : M_laws_szDiagramNodeS fu p0 p1 = some r) {w : World} {v0 : Value} {v1 : Value} (hA : AvOK A w) (h0 : Rep (eSl E_impl_DiagramNode) A w v0 p0) (h1 : v1 = .int .i64 p1) :
    Calls Try.prog 69 #[v0, v1] w fun e w' => ∃ v, e = .returned v ∧ (v = .int .i64 r ∧ Fr w w') := by
  unfold M_laws_szDiagramNodeS at hr
  obtain ⟨w0, hw0⟩ : ∃ w0, w0 = w := ⟨_, rfl⟩
  have hF : Fr w0 w := hw0 ▸ Fr.refl _
  rw [show Fr w = Fr w0 from hw0 ▸ rfl]
  clear hw0
  refine calls_of_HT2 [.tmp 4] Try.func69 Try.ntmps69 (by decide) rfl rfl (Nat.le_of_ble_eq_true rfl) ?_
  intro R hR
  have f_v0 := h0
  replace h0 : R 0 = v0 := hR 0 _ rfl
  replace h1 : R 1 = .int .i64 p1 := (hR 1 _ rfl).trans h1
  clear hR
  refine HT.seq ?_
  refine HT.text (l := ⟨_, true, .raw (.int .i64 (0 : Int))⟩ :: []) (tl := []) (by kernel_rfl) (by kernel_rfl) (by kernel_rfl) ?_ ?_
  · exact
      Obls.cons (Obl.plain rfl rfl fun R' w' hw hs hd => by exact of_assign rfl) <|
      Obls.nil
  intro R w hw hs hF'
  replace h0 : R 0 = v0 := (hs 0 rfl).trans h0
  replace h1 : R 1 = .int .i64 p1 := (hs 1 rfl).trans h1
  replace f_v0 := f_v0.fr hw
  replace hA := hA.fr hw.size
  replace hF := hF.trans hw
  clear hs hF' hw
  refine seqR_nil ?_
  refine HT.seq ?_
  obtain ⟨e1, hr⟩ := ck_some hr
  refine HT.text (l := ⟨_, true, .raw (.int .i64 p1)⟩ :: ⟨_, true, .raw v0⟩ :: ⟨_, true, .raw (.int .i64 (p0.length : Int))⟩ :: ⟨_, true, .raw (.int .i64 (p1 - (p0.length : Int)))⟩ :: ⟨_, true, .raw (.int .i64 (p1 - (p0.length : Int)))⟩ :: []) (tl := []) (by kernel_rfl) (by kernel_rfl) (by kernel_rfl) ?_ ?_
  · exact
      Obls.cons (Obl.plain rfl rfl fun R' w' hw hs hd => by have a0 : R' 1 = .int .i64 p1 := (hs 1 rfl).trans h1; exact of_move a0) <|
      Obls.cons (Obl.plain rfl rfl fun R' w' hw hs hd => by have a0 : R' 0 = v0 := (hs 0 rfl).trans h0; exact of_move a0) <|
      Obls.cons (Obl.plain rfl rfl fun R' w' hw hs hd => by have a0 : R' 6 = v0 := hd 0 _ _ _ rfl rfl rfl rfl rfl; have ra0 := (f_v0.fr hw).eq a0; exact of_len_sl (aT := #[]) ra0 Try.underlying36) <|
      Obls.cons (Obl.plain rfl rfl fun R' w' hw hs hd => by have a0 : R' 5 = .int .i64 p1 := hd 0 _ _ _ rfl rfl rfl rfl rfl; have a1 : R' 7 = .int .i64 (p0.length : Int) := hd 1 _ _ _ rfl rfl rfl rfl rfl; exact of_sub a0 a1 e1) <|
      Obls.cons (Obl.plain rfl rfl fun R' w' hw hs hd => by have a0 : R' 8 = .int .i64 (p1 - (p0.length : Int)) := hd 0 _ _ _ rfl rfl rfl rfl rfl; exact of_assign a0) <|
      Obls.nil
  intro R w hw hs hF'
  have h1 : R 1 = .int .i64 (p1 - (p0.length : Int)) := hF' 4 _ _ rfl rfl rfl
  replace hA := hA.fr hw.size
  replace hF := hF.trans hw
  clear hs hF' hw
  refine seqR_nil ?_
  refine HT.seq ?_
  refine HT.seq ?_
  refine HT.text (l := ⟨_, true, .raw (.int .i64 (p1 - (p0.length : Int)))⟩ :: ⟨_, true, .raw (.bool (decide ((p1 - (p0.length : Int)) < (0 : Int))))⟩ :: []) (tl := []) (by kernel_rfl) (by kernel_rfl) (by kernel_rfl) ?_ ?_
  · exact
      Obls.cons (Obl.plain rfl rfl fun R' w' hw hs hd => by have a0 : R' 1 = .int .i64 (p1 - (p0.length : Int)) := (hs 1 rfl).trans h1; exact of_move a0) <|
      Obls.cons (Obl.plain rfl rfl fun R' w' hw hs hd => by have a0 : R' 9 = .int .i64 (p1 - (p0.length : Int)) := hd 0 _ _ _ rfl rfl rfl rfl rfl; exact of_lss a0 rfl) <|
      Obls.nil
  intro R w hw hs hF'
  replace h1 : R 1 = .int .i64 (p1 - (p0.length : Int)) := (hs 1 rfl).trans h1
  have h10 : R 10 = .bool (decide ((p1 - (p0.length : Int)) < (0 : Int))) := hF' 1 _ _ rfl rfl rfl
  replace hA := hA.fr hw.size
  replace hF := hF.trans hw
  clear hs hF' hw
  refine seqR_nil ?_
  refine HT.cond (decide ((p1 - (p0.length : Int)) < (0 : Int))) h10 (fun c2 => ?_) (fun c2 => ?_)
  · have hr := cnd_t c2 hr
    refine HT.seq ?_
    refine HT.text (l := ⟨_, true, .raw (.int .i64 (-1 : Int))⟩ :: []) (tl := []) (by kernel_rfl) (by kernel_rfl) (by kernel_rfl) ?_ ?_
    · exact
        Obls.cons (Obl.plain rfl rfl fun R' w' hw hs hd => by exact of_assign rfl) <|
        Obls.nil
    intro R w hw hs hF'
    have h4 : R 4 = .int .i64 (-1 : Int) := hF' 0 _ _ rfl rfl rfl
    replace hA := hA.fr hw.size
    replace hF := hF.trans hw
    clear hs hF' hw
    refine seqR_nil ?_
    refine HT.ret ?_
    obtain rfl := Option.some.inj hr
    exact ⟨.inr rfl, [R 4], ⟨rfl, trivial⟩, h4, hF⟩
  · have hr := cnd_f c2 hr
    refine HT.skip ?_
    refine HT.seq ?_
    refine HT.text (l := ⟨_, true, .raw (.int .i64 (p1 - (p0.length : Int)))⟩ :: ⟨_, true, .raw (.int .i64 (p1 - (p0.length : Int)))⟩ :: []) (tl := []) (by kernel_rfl) (by kernel_rfl) (by kernel_rfl) ?_ ?_
    · exact
        Obls.cons (Obl.plain rfl rfl fun R' w' hw hs hd => by have a0 : R' 1 = .int .i64 (p1 - (p0.length : Int)) := (hs 1 rfl).trans h1; exact of_move a0) <|
        Obls.cons (Obl.plain rfl rfl fun R' w' hw hs hd => by have a0 : R' 11 = .int .i64 (p1 - (p0.length : Int)) := hd 0 _ _ _ rfl rfl rfl rfl rfl; exact of_assign a0) <|
        Obls.nil
    intro R w hw hs hF'
    have h4 : R 4 = .int .i64 (p1 - (p0.length : Int)) := hF' 1 _ _ rfl rfl rfl
    replace hA := hA.fr hw.size
    replace hF := hF.trans hw
    clear hs hF' hw
    refine seqR_nil ?_
    refine HT.ret ?_
    obtain rfl := Option.some.inj hr
    exact ⟨.inr rfl, [R 4], ⟨rfl, trivial⟩, h4, hF⟩
def M_laws_szDiagram (fu : Nat) (p0 : T_laws_Diagram) (p1 : Int) : Option Int :=
  cl true (M_laws_szDiagramNodeS fu p0.2 p1) fun x2 =>
  bif (decide (x2 < (0 : Int))) then (
    some (-1 : Int)
  ) else (
    some x2
  )
set_option maxRecDepth 100000 in
set_option maxHeartbeats 4000000 in
theorem M_laws_szDiagram_ok {fu : Nat} {A0 : Av} {p0 : T_laws_Diagram} {p1 : Int} {r : Int} (hr : M_laws_szDiagram fu p0 p1 = some r) {w : World} {v0 : Value} {v1 : Value} (hA : AvOK A0 w) (h0 : Rep E_laws_Diagram A0 w v0 p0) (h1 : v1 = .int .i64 p1) :
    Calls Try.prog 22 #[v0, v1] w fun e w' => ∃ v, e = .returned v ∧ (v = .int .i64 r ∧ Fr w w') := by
  unfold M_laws_szDiagram at hr
  obtain ⟨w0, hw0⟩ : ∃ w0, w0 = w := ⟨_, rfl⟩
  have hF : Fr w0 w := hw0 ▸ Fr.refl _
  have hA0 : ∀ b o, A0 b o → b < w0.heap.size := fun b o h => hw0 ▸ hA b o h
  have hA00 : AvOK A0 w0 := hA0
  rw [show Fr w = Fr w0 from hw0 ▸ rfl]
  clear hw0
  obtain ⟨A, hAe⟩ : ∃ A, A = A0 := ⟨_, rfl⟩
  have hAA : ∀ b o, A0 b o → A b o := fun b o h => hAe ▸ h
  replace hA : AvOK A w := hAe ▸ hA
  have hO : IniOK [] A w := IniOK.nil
  refine calls_of_HT2 [.tmp 4] Try.func22 Try.ntmps22 (by decide) rfl rfl (Nat.le_of_ble_eq_true rfl) ?_
  intro R hR
  have f_v0 : Rep E_laws_Diagram A w v0 p0 := hAe ▸ h0
  replace h0 : R 0 = v0 := hR 0 _ rfl
  replace h1 : R 1 = .int .i64 p1 := (hR 1 _ rfl).trans h1
  clear hR hAe
  refine HT.seq ?_
  refine HT.textR [] (⟨_, true, none, some (.box w0.heap.size 38 E_laws_Diagram p0), true, fun A => .any⟩ :: ⟨_, true, none, none, true, fun A => .raw (.int .i64 (0 : Int))⟩ :: []) (by kernel_rfl) (by kernel_rfl) (Wf.mk' (by kernel_rfl) (UAll.cons ust_any (UAll.cons ust_raw (UAll.nil))) (by kernel_rfl) (by kernel_rfl)) hO hA ?_ ?_
  · exact
      OblsR.cons (OblR.made _ rfl rfl rfl rfl fun A' R' w' ho hd => by have a0 : R' 0 = v0 := (ho.old 0 rfl).trans h0; have ra0 := (f_v0.stp ho.stp).eq a0; exact made_box ra0 (Nat.le_trans hF.size ho.ch.size)) <|
      OblsR.cons (OblR.plain rfl rfl rfl rfl fun A' R' w' ho hd => by exact of_assign rfl) <|
      OblsR.nil
  intro done ρ A R w hdn hI
  replace h1 : R 1 = .int .i64 p1 := (hI.reg rfl).trans h1
  obtain ⟨b2_0, e_b2_0⟩ := hI.boxv hdn 0 rfl rfl
  have h2 : R 2 = (.pointer (some ⟨b2_0, 0, none⟩)) := (hI.opvR hdn 0 0 rfl rfl rfl rfl rfl).symm.trans e_b2_0
  replace hAA := hI.low' hAA hA0 (hO.ge (trivial))
  replace hF : Fr w0 w := Below.trans hF (hI.ch.below hF.size (hO.ge (trivial)))
  replace hO : IniOK [((.pointer (some ⟨b2_0, 0, none⟩)), .box w0.heap.size 38 E_laws_Diagram p0)] A w := hI.left hdn [(0, (.pointer (some ⟨b2_0, 0, none⟩)), .box w0.heap.size 38 E_laws_Diagram p0)] ⟨rfl, rfl, e_b2_0, rfl, trivial⟩
  replace hA := hI.avok
  clear hI
  refine HT.seq ?_
  obtain ⟨x2, q3, hr⟩ := cl_some hr
  refine HT.text (l := ⟨_, true, .raw (.pointer (some ⟨b2_0, 1, none⟩))⟩ :: ⟨_, true, .rep (eSl E_impl_DiagramNode) A p0.2⟩ :: ⟨_, true, .raw (.int .i64 p1)⟩ :: ⟨_, true, .raw (.int .i64 x2)⟩ :: ⟨_, true, .raw (.int .i64 x2)⟩ :: []) (tl := []) (by kernel_rfl) (by kernel_rfl) (by kernel_rfl) ?_ ?_
  · exact
      Obls.cons (Obl.plain rfl rfl fun R' w' hw hs hd => by have a0 : R' 2 = (.pointer (some ⟨b2_0, 0, none⟩)) := (hs 2 rfl).trans h2; exact of_fieldAddr_raw a0 ff_38_1 Try.sizeOf36 (by decide) rfl) <|
      Obls.cons (Obl.plain rfl rfl fun R' w' hw hs hd => by have a0 : R' 5 = (.pointer (some ⟨b2_0, 1, none⟩)) := hd 0 _ _ _ rfl rfl rfl rfl rfl; exact (of_load_box ((hO.fr hw).ok 0 _ rfl).1 a0 fl_laws_Diagram_1 rfl Try.isAgg36 Try.sizeOf36)) <|
      Obls.cons (Obl.plain rfl rfl fun R' w' hw hs hd => by have a0 : R' 1 = .int .i64 p1 := (hs 1 rfl).trans h1; exact of_move a0) <|
      Obls.cons (Obl.plain rfl rfl fun R' w' hw hs hd => by have a0 : Rep (eSl E_impl_DiagramNode) A w' (R' 6) p0.2 := hd 0 _ _ _ rfl rfl rfl rfl rfl; have a1 : R' 7 = .int .i64 p1 := hd 1 _ _ _ rfl rfl rfl rfl rfl; exact of_call Try.call69 (M_laws_szDiagramNodeS_ok (q3 rfl) (hA.fr hw.size) a0 a1)) <|
      Obls.cons (Obl.plain rfl rfl fun R' w' hw hs hd => by have a0 : R' 8 = .int .i64 x2 := hd 0 _ _ _ rfl rfl rfl rfl rfl; exact of_assign a0) <|
      Obls.nil
  intro R w hw hs hF'
  have h1 : R 1 = .int .i64 x2 := hF' 4 _ _ rfl rfl rfl
  replace hO := hO.fr hw
  replace hO : IniOK [] A w := hO.sub [] trivial
  replace hA := hA.fr hw.size
  replace hF := hF.trans hw
  clear hs hF' hw
  refine seqR_nil ?_
  refine HT.seq ?_
  refine HT.seq ?_
  refine HT.text (l := ⟨_, true, .raw (.int .i64 x2)⟩ :: ⟨_, true, .raw (.bool (decide (x2 < (0 : Int))))⟩ :: []) (tl := []) (by kernel_rfl) (by kernel_rfl) (by kernel_rfl) ?_ ?_
  · exact
      Obls.cons (Obl.plain rfl rfl fun R' w' hw hs hd => by have a0 : R' 1 = .int .i64 x2 := (hs 1 rfl).trans h1; exact of_move a0) <|
      Obls.cons (Obl.plain rfl rfl fun R' w' hw hs hd => by have a0 : R' 9 = .int .i64 x2 := hd 0 _ _ _ rfl rfl rfl rfl rfl; exact of_lss a0 rfl) <|
      Obls.nil
  intro R w hw hs hF'
  replace h1 : R 1 = .int .i64 x2 := (hs 1 rfl).trans h1
  have h10 : R 10 = .bool (decide (x2 < (0 : Int))) := hF' 1 _ _ rfl rfl rfl
  replace hO := hO.fr hw
  replace hA := hA.fr hw.size
  replace hF := hF.trans hw
  clear hs hF' hw
  refine seqR_nil ?_
  refine HT.cond (decide (x2 < (0 : Int))) h10 (fun c4 => ?_) (fun c4 => ?_)
  · have hr := cnd_t c4 hr
    refine HT.seq ?_
    refine HT.text (l := ⟨_, true, .raw (.int .i64 (-1 : Int))⟩ :: []) (tl := []) (by kernel_rfl) (by kernel_rfl) (by kernel_rfl) ?_ ?_
    · exact
        Obls.cons (Obl.plain rfl rfl fun R' w' hw hs hd => by exact of_assign rfl) <|
        Obls.nil
    intro R w hw hs hF'
    have h4 : R 4 = .int .i64 (-1 : Int) := hF' 0 _ _ rfl rfl rfl
    replace hO := hO.fr hw
    replace hA := hA.fr hw.size
    replace hF := hF.trans hw
    clear hs hF' hw
    refine seqR_nil ?_
    refine HT.ret ?_
    obtain rfl := Option.some.inj hr
    exact ⟨.inr rfl, [R 4], ⟨rfl, trivial⟩, h4, hF⟩
  · have hr := cnd_f c4 hr
    refine HT.skip ?_
    refine HT.seq ?_
    refine HT.text (l := ⟨_, true, .raw (.int .i64 x2)⟩ :: ⟨_, true, .raw (.int .i64 x2)⟩ :: []) (tl := []) (by kernel_rfl) (by kernel_rfl) (by kernel_rfl) ?_ ?_
    · exact
        Obls.cons (Obl.plain rfl rfl fun R' w' hw hs hd => by have a0 : R' 1 = .int .i64 x2 := (hs 1 rfl).trans h1; exact of_move a0) <|
        Obls.cons (Obl.plain rfl rfl fun R' w' hw hs hd => by have a0 : R' 11 = .int .i64 x2 := hd 0 _ _ _ rfl rfl rfl rfl rfl; exact of_assign a0) <|
        Obls.nil
    intro R w hw hs hF'
    have h4 : R 4 = .int .i64 x2 := hF' 1 _ _ rfl rfl rfl
    replace hO := hO.fr hw
    replace hA := hA.fr hw.size
    replace hF := hF.trans hw
    clear hs hF' hw
    refine seqR_nil ?_
    refine HT.ret ?_
    obtain rfl := Option.some.inj hr
    exact ⟨.inr rfl, [R 4], ⟨rfl, trivial⟩, h4, hF⟩
def M_laws_toDiagramNode (fu : Nat) (p0 : T_impl_DiagramNode) : Option T_impl_DiagramNode :=
  some (p0.1, p0.2.1, p0.2.2.1, p0.2.2.2)
set_option maxRecDepth 100000 in
set_option maxHeartbeats 4000000 in
theorem M_laws_toDiagramNode_ok {fu : Nat} {A0 : Av} {p0 : T_impl_DiagramNode} {r : T_impl_DiagramNode} (hr : M_laws_toDiagramNode fu p0 = some r) {w : World} {v0 : Value} (hA : AvOK A0 w) (h0 : Rep E_impl_DiagramNode A0 w v0 p0) :
    Calls Try.prog 112 #[v0] w fun e w' => ∃ v, e = .returned v ∧ (Rep E_impl_DiagramNode A0 w' v r ∧ Fr w w') := by
  unfold M_laws_toDiagramNode at hr
  obtain ⟨w0, hw0⟩ : ∃ w0, w0 = w := ⟨_, rfl⟩
  have hF : Fr w0 w := hw0 ▸ Fr.refl _
  have hA0 : ∀ b o, A0 b o → b < w0.heap.size := fun b o h => hw0 ▸ hA b o h
  have hA00 : AvOK A0 w0 := hA0
  rw [show Fr w = Fr w0 from hw0 ▸ rfl]
  clear hw0
  obtain ⟨A, hAe⟩ : ∃ A, A = A0 := ⟨_, rfl⟩
  have hAA : ∀ b o, A0 b o → A b o := fun b o h => hAe ▸ h
  replace hA : AvOK A w := hAe ▸ hA
  have hO : IniOK [] A w := IniOK.nil
  refine calls_of_HT2 [.cell 2 92] Try.func112 Try.ntmps112 (by decide) rfl rfl (Nat.le_of_ble_eq_true rfl) ?_
  intro R hR
  have f_v0 : Rep E_impl_DiagramNode A w v0 p0 := hAe ▸ h0
  replace h0 : R 0 = v0 := hR 0 _ rfl
  clear hR hAe
  refine HT.seq ?_
  refine HT.textR [] (⟨_, true, none, some (.box w0.heap.size 137 E_impl_DiagramNode p0), true, fun A => .any⟩ :: ⟨_, true, none, some (.box w0.heap.size 92 E_impl_DiagramNode ((0 : Int), ((0 : Int), ((0 : Int), (0 : Int))))), true, fun A => .any⟩ :: []) (by kernel_rfl) (by kernel_rfl) (Wf.mk' (by kernel_rfl) (UAll.cons ust_any (UAll.cons ust_any (UAll.nil))) (by kernel_rfl) (by kernel_rfl)) hO hA ?_ ?_
  · exact
      OblsR.cons (OblR.made _ rfl rfl rfl rfl fun A' R' w' ho hd => by have a0 : R' 0 = v0 := (ho.old 0 rfl).trans h0; have ra0 := (f_v0.stp ho.stp).eq a0; exact made_box ra0 (Nat.le_trans hF.size ho.ch.size)) <|
      OblsR.cons (OblR.made _ rfl rfl rfl rfl fun A' R' w' ho hd => by exact made_alloc Try.zeroValue92 (fun A w => rep_pr rep1_int (rep_pr rep1_int (rep_pr rep1_int rep1_int))) (Nat.le_trans hF.size ho.ch.size)) <|
      OblsR.nil
  intro done ρ A R w hdn hI
  obtain ⟨b1_0, e_b1_0⟩ := hI.boxv hdn 0 rfl rfl
  have h1 : R 1 = (.pointer (some ⟨b1_0, 0, none⟩)) := (hI.opvR hdn 0 0 rfl rfl rfl rfl rfl).symm.trans e_b1_0
  obtain ⟨b2_1, e_b2_1⟩ := hI.boxv hdn 1 rfl rfl
  have h2 : R 2 = (.pointer (some ⟨b2_1, 0, none⟩)) := (hI.opvR hdn 1 1 rfl rfl rfl rfl rfl).symm.trans e_b2_1
  replace hAA := hI.low' hAA hA0 (hO.ge (trivial))
  replace hF : Fr w0 w := Below.trans hF (hI.ch.below hF.size (hO.ge (trivial)))
  replace hO : IniOK [((.pointer (some ⟨b1_0, 0, none⟩)), .box w0.heap.size 137 E_impl_DiagramNode p0), ((.pointer (some ⟨b2_1, 0, none⟩)), .box w0.heap.size 92 E_impl_DiagramNode ((0 : Int), ((0 : Int), ((0 : Int), (0 : Int)))))] A w := hI.left hdn [(0, (.pointer (some ⟨b1_0, 0, none⟩)), .box w0.heap.size 137 E_impl_DiagramNode p0), (1, (.pointer (some ⟨b2_1, 0, none⟩)), .box w0.heap.size 92 E_impl_DiagramNode ((0 : Int), ((0 : Int), ((0 : Int), (0 : Int)))))] ⟨rfl, rfl, e_b1_0, rfl, ⟨rfl, rfl, e_b2_1, rfl, trivial⟩⟩
  replace hA := hI.avok
  clear hI
  refine HT.seq ?_
  refine HT.textR [((.pointer (some ⟨b1_0, 0, none⟩)), .box w0.heap.size 137 E_impl_DiagramNode p0), ((.pointer (some ⟨b2_1, 0, none⟩)), .box w0.heap.size 92 E_impl_DiagramNode ((0 : Int), ((0 : Int), ((0 : Int), (0 : Int)))))] (⟨_, true, none, some (.box w0.heap.size 92 E_impl_DiagramNode ((0 : Int), ((0 : Int), ((0 : Int), (0 : Int))))), true, fun A => .any⟩ :: []) (by kernel_rfl) (by kernel_rfl) (Wf.mk' (by kernel_rfl) (UAll.cons ust_any (UAll.nil)) (by kernel_rfl) (by kernel_rfl)) hO hA ?_ ?_
  · exact
      OblsR.cons (OblR.made _ rfl rfl rfl rfl fun A' R' w' ho hd => by exact made_alloc Try.zeroValue92 (fun A w => rep_pr rep1_int (rep_pr rep1_int (rep_pr rep1_int rep1_int))) (Nat.le_trans hF.size ho.ch.size)) <|
      OblsR.nil
  intro done ρ A R w hdn hI
  replace h1 : R 1 = (.pointer (some ⟨b1_0, 0, none⟩)) := (hI.reg rfl).trans h1
  replace h2 : R 2 = (.pointer (some ⟨b2_1, 0, none⟩)) := (hI.reg rfl).trans h2
  have z3 := hI.inivR 0 rfl
  have z4 := hI.inivR 1 rfl
  obtain ⟨b3_4, e_b3_4⟩ := hI.boxv hdn 2 rfl rfl
  have h3 : R 3 = (.pointer (some ⟨b3_4, 0, none⟩)) := (hI.opvR hdn 2 0 rfl rfl rfl rfl rfl).symm.trans e_b3_4
  replace hAA := hI.low' hAA hA0 (hO.ge (⟨rfl, ⟨rfl, trivial⟩⟩))
  replace hF : Fr w0 w := Below.trans hF (hI.ch.below hF.size (hO.ge (⟨rfl, ⟨rfl, trivial⟩⟩)))
  replace hO : IniOK [((.pointer (some ⟨b1_0, 0, none⟩)), .box w0.heap.size 137 E_impl_DiagramNode p0), ((.pointer (some ⟨b2_1, 0, none⟩)), .box w0.heap.size 92 E_impl_DiagramNode ((0 : Int), ((0 : Int), ((0 : Int), (0 : Int))))), ((.pointer (some ⟨b3_4, 0, none⟩)), .box w0.heap.size 92 E_impl_DiagramNode ((0 : Int), ((0 : Int), ((0 : Int), (0 : Int)))))] A w := hI.left hdn [(0, (.pointer (some ⟨b1_0, 0, none⟩)), .box w0.heap.size 137 E_impl_DiagramNode p0), (1, (.pointer (some ⟨b2_1, 0, none⟩)), .box w0.heap.size 92 E_impl_DiagramNode ((0 : Int), ((0 : Int), ((0 : Int), (0 : Int))))), (2, (.pointer (some ⟨b3_4, 0, none⟩)), .box w0.heap.size 92 E_impl_DiagramNode ((0 : Int), ((0 : Int), ((0 : Int), (0 : Int)))))] ⟨rfl, rfl, z3, rfl, ⟨rfl, rfl, z4, rfl, ⟨rfl, rfl, e_b3_4, rfl, trivial⟩⟩⟩
  replace hA := hI.avok
  clear hI
  refine HT.seq ?_
  refine HT.textR [((.pointer (some ⟨b1_0, 0, none⟩)), .box w0.heap.size 137 E_impl_DiagramNode p0), ((.pointer (some ⟨b2_1, 0, none⟩)), .box w0.heap.size 92 E_impl_DiagramNode ((0 : Int), ((0 : Int), ((0 : Int), (0 : Int))))), ((.pointer (some ⟨b3_4, 0, none⟩)), .box w0.heap.size 92 E_impl_DiagramNode ((0 : Int), ((0 : Int), ((0 : Int), (0 : Int)))))] (⟨_, true, none, none, true, fun A => .raw (.pointer (some ⟨b1_0, 0, none⟩))⟩ :: ⟨_, true, none, none, true, fun A => .raw (.int .i64 p0.1)⟩ :: ⟨_, true, none, none, true, fun A => .raw (.pointer (some ⟨b3_4, 0, none⟩))⟩ :: ⟨_, true, some 2, some (.box w0.heap.size 92 E_impl_DiagramNode (p0.1, (0 : Int), (0 : Int), (0 : Int))), false, fun A => .any⟩ :: []) (by kernel_rfl) (by kernel_rfl) (Wf.mk' (by kernel_rfl) (UAll.cons ust_raw (UAll.cons ust_raw (UAll.cons ust_raw (UAll.cons ust_any (UAll.nil))))) (by kernel_rfl) (by kernel_rfl)) hO hA ?_ ?_
  · exact
      OblsR.cons (OblR.plain rfl rfl rfl rfl fun A' R' w' ho hd => by have a0 : R' 1 = (.pointer (some ⟨b1_0, 0, none⟩)) := (ho.old 1 rfl).trans h1; exact of_fieldAddr_raw a0 ff_137_0 Try.sizeOf3 (by decide) rfl) <|
      OblsR.cons (OblR.plain rfl rfl rfl rfl fun A' R' w' ho hd => by have a0 : R' 4 = (.pointer (some ⟨b1_0, 0, none⟩)) := hd 0 _ _ _ rfl rfl rfl rfl rfl; exact OpF.int (of_load_box (ho.rd 0 _ rfl rfl) a0 fl_impl_DiagramNode_0 rfl Try.isAgg3 Try.sizeOf3)) <|
      OblsR.cons (OblR.plain rfl rfl rfl rfl fun A' R' w' ho hd => by have a0 : R' 3 = (.pointer (some ⟨b3_4, 0, none⟩)) := (ho.old 3 rfl).trans h3; exact of_fieldAddr_raw a0 ff_92_0 Try.sizeOf3 (by decide) rfl) <|
      OblsR.cons (OblR.took 2 _ _ rfl rfl rfl rfl rfl fun A' R' w' ho hd u hok hav hin hop => by have a0 : R' 6 = (.pointer (some ⟨b3_4, 0, none⟩)) := hd 0 _ _ _ rfl rfl rfl rfl rfl; have a1 : R' 5 = .int .i64 p0.1 := hd 1 _ _ _ rfl rfl rfl rfl rfl; exact took_store (rep_int.eq a1) a0 (hin _ rfl) hok hav fs_impl_DiagramNode_0 Try.sizeOf3 rfl) <|
      OblsR.nil
  intro done ρ A R w hdn hI
  replace h1 : R 1 = (.pointer (some ⟨b1_0, 0, none⟩)) := (hI.reg rfl).trans h1
  replace h2 : R 2 = (.pointer (some ⟨b2_1, 0, none⟩)) := (hI.reg rfl).trans h2
  replace h3 : R 3 = (.pointer (some ⟨b3_4, 0, none⟩)) := (hI.reg rfl).trans h3
  have z6 := hI.inivR 0 rfl
  have z7 := hI.inivR 1 rfl
  have z8 := hI.inivR 2 rfl
  have z9 := (hI.opnR hdn 6 3 rfl rfl rfl rfl rfl).trans z8
  replace hAA := hI.low' hAA hA0 (hO.ge (⟨rfl, ⟨rfl, ⟨rfl, trivial⟩⟩⟩))
  replace hF : Fr w0 w := Below.trans hF (hI.ch.below hF.size (hO.ge (⟨rfl, ⟨rfl, ⟨rfl, trivial⟩⟩⟩)))
  replace hO : IniOK [((.pointer (some ⟨b1_0, 0, none⟩)), .box w0.heap.size 137 E_impl_DiagramNode p0), ((.pointer (some ⟨b2_1, 0, none⟩)), .box w0.heap.size 92 E_impl_DiagramNode ((0 : Int), ((0 : Int), ((0 : Int), (0 : Int))))), ((.pointer (some ⟨b3_4, 0, none⟩)), .box w0.heap.size 92 E_impl_DiagramNode (p0.1, (0 : Int), (0 : Int), (0 : Int)))] A w := hI.left hdn [(0, (.pointer (some ⟨b1_0, 0, none⟩)), .box w0.heap.size 137 E_impl_DiagramNode p0), (1, (.pointer (some ⟨b2_1, 0, none⟩)), .box w0.heap.size 92 E_impl_DiagramNode ((0 : Int), ((0 : Int), ((0 : Int), (0 : Int))))), (6, (.pointer (some ⟨b3_4, 0, none⟩)), .box w0.heap.size 92 E_impl_DiagramNode (p0.1, (0 : Int), (0 : Int), (0 : Int)))] ⟨rfl, rfl, z6, rfl, ⟨rfl, rfl, z7, rfl, ⟨rfl, rfl, z9, rfl, trivial⟩⟩⟩
  replace hA := hI.avok
  clear hI
  refine HT.seq ?_
  refine HT.textR [((.pointer (some ⟨b1_0, 0, none⟩)), .box w0.heap.size 137 E_impl_DiagramNode p0), ((.pointer (some ⟨b2_1, 0, none⟩)), .box w0.heap.size 92 E_impl_DiagramNode ((0 : Int), ((0 : Int), ((0 : Int), (0 : Int))))), ((.pointer (some ⟨b3_4, 0, none⟩)), .box w0.heap.size 92 E_impl_DiagramNode (p0.1, (0 : Int), (0 : Int), (0 : Int)))] (⟨_, true, none, none, true, fun A => .raw (.pointer (some ⟨b1_0, 1, none⟩))⟩ :: ⟨_, true, none, none, true, fun A => .raw (.int .i64 p0.2.1)⟩ :: ⟨_, true, none, none, true, fun A => .raw (.pointer (some ⟨b3_4, 1, none⟩))⟩ :: ⟨_, true, some 2, some (.box w0.heap.size 92 E_impl_DiagramNode (p0.1, p0.2.1, (0 : Int), (0 : Int))), false, fun A => .any⟩ :: []) (by kernel_rfl) (by kernel_rfl) (Wf.mk' (by kernel_rfl) (UAll.cons ust_raw (UAll.cons ust_raw (UAll.cons ust_raw (UAll.cons ust_any (UAll.nil))))) (by kernel_rfl) (by kernel_rfl)) hO hA ?_ ?_
  · exact
      OblsR.cons (OblR.plain rfl rfl rfl rfl fun A' R' w' ho hd => by have a0 : R' 1 = (.pointer (some ⟨b1_0, 0, none⟩)) := (ho.old 1 rfl).trans h1; exact of_fieldAddr_raw a0 ff_137_1 Try.sizeOf3 (by decide) rfl) <|
      OblsR.cons (OblR.plain rfl rfl rfl rfl fun A' R' w' ho hd => by have a0 : R' 7 = (.pointer (some ⟨b1_0, 1, none⟩)) := hd 0 _ _ _ rfl rfl rfl rfl rfl; exact OpF.int (of_load_box (ho.rd 0 _ rfl rfl) a0 fl_impl_DiagramNode_1 rfl Try.isAgg3 Try.sizeOf3)) <|
      OblsR.cons (OblR.plain rfl rfl rfl rfl fun A' R' w' ho hd => by have a0 : R' 3 = (.pointer (some ⟨b3_4, 0, none⟩)) := (ho.old 3 rfl).trans h3; exact of_fieldAddr_raw a0 ff_92_1 Try.sizeOf3 (by decide) rfl) <|
      OblsR.cons (OblR.took 2 _ _ rfl rfl rfl rfl rfl fun A' R' w' ho hd u hok hav hin hop => by have a0 : R' 9 = (.pointer (some ⟨b3_4, 1, none⟩)) := hd 0 _ _ _ rfl rfl rfl rfl rfl; have a1 : R' 8 = .int .i64 p0.2.1 := hd 1 _ _ _ rfl rfl rfl rfl rfl; exact took_store (rep_int.eq a1) a0 (hin _ rfl) hok hav fs_impl_DiagramNode_1 Try.sizeOf3 rfl) <|
      OblsR.nil
  intro done ρ A R w hdn hI
  replace h1 : R 1 = (.pointer (some ⟨b1_0, 0, none⟩)) := (hI.reg rfl).trans h1
  replace h2 : R 2 = (.pointer (some ⟨b2_1, 0, none⟩)) := (hI.reg rfl).trans h2
  replace h3 : R 3 = (.pointer (some ⟨b3_4, 0, none⟩)) := (hI.reg rfl).trans h3
  have z10 := hI.inivR 0 rfl
  have z11 := hI.inivR 1 rfl
  have z12 := hI.inivR 2 rfl
  have z13 := (hI.opnR hdn 6 3 rfl rfl rfl rfl rfl).trans z12
  replace hAA := hI.low' hAA hA0 (hO.ge (⟨rfl, ⟨rfl, ⟨rfl, trivial⟩⟩⟩))
  replace hF : Fr w0 w := Below.trans hF (hI.ch.below hF.size (hO.ge (⟨rfl, ⟨rfl, ⟨rfl, trivial⟩⟩⟩)))
  replace hO : IniOK [((.pointer (some ⟨b1_0, 0, none⟩)), .box w0.heap.size 137 E_impl_DiagramNode p0), ((.pointer (some ⟨b2_1, 0, none⟩)), .box w0.heap.size 92 E_impl_DiagramNode ((0 : Int), ((0 : Int), ((0 : Int), (0 : Int))))), ((.pointer (some ⟨b3_4, 0, none⟩)), .box w0.heap.size 92 E_impl_DiagramNode (p0.1, p0.2.1, (0 : Int), (0 : Int)))] A w := hI.left hdn [(0, (.pointer (some ⟨b1_0, 0, none⟩)), .box w0.heap.size 137 E_impl_DiagramNode p0), (1, (.pointer (some ⟨b2_1, 0, none⟩)), .box w0.heap.size 92 E_impl_DiagramNode ((0 : Int), ((0 : Int), ((0 : Int), (0 : Int))))), (6, (.pointer (some ⟨b3_4, 0, none⟩)), .box w0.heap.size 92 E_impl_DiagramNode (p0.1, p0.2.1, (0 : Int), (0 : Int)))] ⟨rfl, rfl, z10, rfl, ⟨rfl, rfl, z11, rfl, ⟨rfl, rfl, z13, rfl, trivial⟩⟩⟩
  replace hA := hI.avok
  clear hI
  refine HT.seq ?_
  refine HT.textR [((.pointer (some ⟨b1_0, 0, none⟩)), .box w0.heap.size 137 E_impl_DiagramNode p0), ((.pointer (some ⟨b2_1, 0, none⟩)), .box w0.heap.size 92 E_impl_DiagramNode ((0 : Int), ((0 : Int), ((0 : Int), (0 : Int))))), ((.pointer (some ⟨b3_4, 0, none⟩)), .box w0.heap.size 92 E_impl_DiagramNode (p0.1, p0.2.1, (0 : Int), (0 : Int)))] (⟨_, true, none, none, true, fun A => .raw (.pointer (some ⟨b1_0, 2, none⟩))⟩ :: ⟨_, true, none, none, true, fun A => .raw (.int .i64 p0.2.2.1)⟩ :: ⟨_, true, none, none, true, fun A => .raw (.pointer (some ⟨b3_4, 2, none⟩))⟩ :: ⟨_, true, some 2, some (.box w0.heap.size 92 E_impl_DiagramNode (p0.1, p0.2.1, p0.2.2.1, (0 : Int))), false, fun A => .any⟩ :: []) (by kernel_rfl) (by kernel_rfl) (Wf.mk' (by kernel_rfl) (UAll.cons ust_raw (UAll.cons ust_raw (UAll.cons ust_raw (UAll.cons ust_any (UAll.nil))))) (by kernel_rfl) (by kernel_rfl)) hO hA ?_ ?_
  · exact
      OblsR.cons (OblR.plain rfl rfl rfl rfl fun A' R' w' ho hd => by have a0 : R' 1 = (.pointer (some ⟨b1_0, 0, none⟩)) := (ho.old 1 rfl).trans h1; exact of_fieldAddr_raw a0 ff_137_2 Try.sizeOf3 (by decide) rfl) <|
      OblsR.cons (OblR.plain rfl rfl rfl rfl fun A' R' w' ho hd => by have a0 : R' 10 = (.pointer (some ⟨b1_0, 2, none⟩)) := hd 0 _ _ _ rfl rfl rfl rfl rfl; exact OpF.int (of_load_box (ho.rd 0 _ rfl rfl) a0 fl_impl_DiagramNode_2 rfl Try.isAgg3 Try.sizeOf3)) <|
      OblsR.cons (OblR.plain rfl rfl rfl rfl fun A' R' w' ho hd => by have a0 : R' 3 = (.pointer (some ⟨b3_4, 0, none⟩)) := (ho.old 3 rfl).trans h3; exact of_fieldAddr_raw a0 ff_92_2 Try.sizeOf3 (by decide) rfl) <|
      OblsR.cons (OblR.took 2 _ _ rfl rfl rfl rfl rfl fun A' R' w' ho hd u hok hav hin hop => by have a0 : R' 12 = (.pointer (some ⟨b3_4, 2, none⟩)) := hd 0 _ _ _ rfl rfl rfl rfl rfl; have a1 : R' 11 = .int .i64 p0.2.2.1 := hd 1 _ _ _ rfl rfl rfl rfl rfl; exact took_store (rep_int.eq a1) a0 (hin _ rfl) hok hav fs_impl_DiagramNode_2 Try.sizeOf3 rfl) <|
      OblsR.nil
  intro done ρ A R w hdn hI
  replace h1 : R 1 = (.pointer (some ⟨b1_0, 0, none⟩)) := (hI.reg rfl).trans h1
  replace h2 : R 2 = (.pointer (some ⟨b2_1, 0, none⟩)) := (hI.reg rfl).trans h2
  replace h3 : R 3 = (.pointer (some ⟨b3_4, 0, none⟩)) := (hI.reg rfl).trans h3
  have z14 := hI.inivR 0 rfl
  have z15 := hI.inivR 1 rfl
  have z16 := hI.inivR 2 rfl
  have z17 := (hI.opnR hdn 6 3 rfl rfl rfl rfl rfl).trans z16
  replace hAA := hI.low' hAA hA0 (hO.ge (⟨rfl, ⟨rfl, ⟨rfl, trivial⟩⟩⟩))
  replace hF : Fr w0 w := Below.trans hF (hI.ch.below hF.size (hO.ge (⟨rfl, ⟨rfl, ⟨rfl, trivial⟩⟩⟩)))
  replace hO : IniOK [((.pointer (some ⟨b1_0, 0, none⟩)), .box w0.heap.size 137 E_impl_DiagramNode p0), ((.pointer (some ⟨b2_1, 0, none⟩)), .box w0.heap.size 92 E_impl_DiagramNode ((0 : Int), ((0 : Int), ((0 : Int), (0 : Int))))), ((.pointer (some ⟨b3_4, 0, none⟩)), .box w0.heap.size 92 E_impl_DiagramNode (p0.1, p0.2.1, p0.2.2.1, (0 : Int)))] A w := hI.left hdn [(0, (.pointer (some ⟨b1_0, 0, none⟩)), .box w0.heap.size 137 E_impl_DiagramNode p0), (1, (.pointer (some ⟨b2_1, 0, none⟩)), .box w0.heap.size 92 E_impl_DiagramNode ((0 : Int), ((0 : Int), ((0 : Int), (0 : Int))))), (6, (.pointer (some ⟨b3_4, 0, none⟩)), .box w0.heap.size 92 E_impl_DiagramNode (p0.1, p0.2.1, p0.2.2.1, (0 : Int)))] ⟨rfl, rfl, z14, rfl, ⟨rfl, rfl, z15, rfl, ⟨rfl, rfl, z17, rfl, trivial⟩⟩⟩
  replace hA := hI.avok
  clear hI
  refine HT.seq ?_
  refine HT.textR [((.pointer (some ⟨b1_0, 0, none⟩)), .box w0.heap.size 137 E_impl_DiagramNode p0), ((.pointer (some ⟨b2_1, 0, none⟩)), .box w0.heap.size 92 E_impl_DiagramNode ((0 : Int), ((0 : Int), ((0 : Int), (0 : Int))))), ((.pointer (some ⟨b3_4, 0, none⟩)), .box w0.heap.size 92 E_impl_DiagramNode (p0.1, p0.2.1, p0.2.2.1, (0 : Int)))] (⟨_, true, none, none, true, fun A => .raw (.pointer (some ⟨b1_0, 3, none⟩))⟩ :: ⟨_, true, none, none, true, fun A => .raw (.int .i64 p0.2.2.2)⟩ :: ⟨_, true, none, none, true, fun A => .raw (.pointer (some ⟨b3_4, 3, none⟩))⟩ :: ⟨_, true, some 2, some (.box w0.heap.size 92 E_impl_DiagramNode (p0.1, p0.2.1, p0.2.2.1, p0.2.2.2)), false, fun A => .any⟩ :: []) (by kernel_rfl) (by kernel_rfl) (Wf.mk' (by kernel_rfl) (UAll.cons ust_raw (UAll.cons ust_raw (UAll.cons ust_raw (UAll.cons ust_any (UAll.nil))))) (by kernel_rfl) (by kernel_rfl)) hO hA ?_ ?_
  · exact
      OblsR.cons (OblR.plain rfl rfl rfl rfl fun A' R' w' ho hd => by have a0 : R' 1 = (.pointer (some ⟨b1_0, 0, none⟩)) := (ho.old 1 rfl).trans h1; exact of_fieldAddr_raw a0 ff_137_3 Try.sizeOf3 (by decide) rfl) <|
      OblsR.cons (OblR.plain rfl rfl rfl rfl fun A' R' w' ho hd => by have a0 : R' 13 = (.pointer (some ⟨b1_0, 3, none⟩)) := hd 0 _ _ _ rfl rfl rfl rfl rfl; exact OpF.int (of_load_box (ho.rd 0 _ rfl rfl) a0 fl_impl_DiagramNode_3 rfl Try.isAgg3 Try.sizeOf3)) <|
      OblsR.cons (OblR.plain rfl rfl rfl rfl fun A' R' w' ho hd => by have a0 : R' 3 = (.pointer (some ⟨b3_4, 0, none⟩)) := (ho.old 3 rfl).trans h3; exact of_fieldAddr_raw a0 ff_92_3 Try.sizeOf3 (by decide) rfl) <|
      OblsR.cons (OblR.took 2 _ _ rfl rfl rfl rfl rfl fun A' R' w' ho hd u hok hav hin hop => by have a0 : R' 15 = (.pointer (some ⟨b3_4, 3, none⟩)) := hd 0 _ _ _ rfl rfl rfl rfl rfl; have a1 : R' 14 = .int .i64 p0.2.2.2 := hd 1 _ _ _ rfl rfl rfl rfl rfl; exact took_store (rep_int.eq a1) a0 (hin _ rfl) hok hav fs_impl_DiagramNode_3 Try.sizeOf3 rfl) <|
      OblsR.nil
  intro done ρ A R w hdn hI
  replace h2 : R 2 = (.pointer (some ⟨b2_1, 0, none⟩)) := (hI.reg rfl).trans h2
  replace h3 : R 3 = (.pointer (some ⟨b3_4, 0, none⟩)) := (hI.reg rfl).trans h3
  have z18 := hI.inivR 0 rfl
  have z19 := hI.inivR 1 rfl
  have z20 := hI.inivR 2 rfl
  have z21 := (hI.opnR hdn 6 3 rfl rfl rfl rfl rfl).trans z20
  replace hAA := hI.low' hAA hA0 (hO.ge (⟨rfl, ⟨rfl, ⟨rfl, trivial⟩⟩⟩))
  replace hF : Fr w0 w := Below.trans hF (hI.ch.below hF.size (hO.ge (⟨rfl, ⟨rfl, ⟨rfl, trivial⟩⟩⟩)))
  replace hO : IniOK [((.pointer (some ⟨b2_1, 0, none⟩)), .box w0.heap.size 92 E_impl_DiagramNode ((0 : Int), ((0 : Int), ((0 : Int), (0 : Int))))), ((.pointer (some ⟨b3_4, 0, none⟩)), .box w0.heap.size 92 E_impl_DiagramNode (p0.1, p0.2.1, p0.2.2.1, p0.2.2.2))] A w := hI.left hdn [(1, (.pointer (some ⟨b2_1, 0, none⟩)), .box w0.heap.size 92 E_impl_DiagramNode ((0 : Int), ((0 : Int), ((0 : Int), (0 : Int))))), (6, (.pointer (some ⟨b3_4, 0, none⟩)), .box w0.heap.size 92 E_impl_DiagramNode (p0.1, p0.2.1, p0.2.2.1, p0.2.2.2))] ⟨rfl, rfl, z19, rfl, ⟨rfl, rfl, z21, rfl, trivial⟩⟩
  replace hA := hI.avok
  clear hI
  refine HT.seq ?_
  refine HT.textR [((.pointer (some ⟨b2_1, 0, none⟩)), .box w0.heap.size 92 E_impl_DiagramNode ((0 : Int), ((0 : Int), ((0 : Int), (0 : Int))))), ((.pointer (some ⟨b3_4, 0, none⟩)), .box w0.heap.size 92 E_impl_DiagramNode (p0.1, p0.2.1, p0.2.2.1, p0.2.2.2))] (⟨_, true, none, none, true, fun A => .rep E_impl_DiagramNode A (p0.1, p0.2.1, p0.2.2.1, p0.2.2.2)⟩ :: ⟨_, true, some 0, some (.box w0.heap.size 92 E_impl_DiagramNode (p0.1, p0.2.1, p0.2.2.1, p0.2.2.2)), false, fun A => .any⟩ :: []) (by kernel_rfl) (by kernel_rfl) (Wf.mk' (by kernel_rfl) (UAll.cons ust_rep (UAll.cons ust_any (UAll.nil))) (by kernel_rfl) (by kernel_rfl)) hO hA ?_ ?_
  · exact
      OblsR.cons (OblR.plain rfl rfl rfl rfl fun A' R' w' ho hd => by have a0 : R' 3 = (.pointer (some ⟨b3_4, 0, none⟩)) := (ho.old 3 rfl).trans h3; exact (of_load_box (ho.rd 1 _ rfl rfl) a0 (Fld.id _) rfl Try.isAgg92 Try.sizeOf92)) <|
      OblsR.cons (OblR.took 0 _ _ rfl rfl rfl rfl rfl fun A' R' w' ho hd u hok hav hin hop => by have a0 : R' 2 = (.pointer (some ⟨b2_1, 0, none⟩)) := (ho.old 2 rfl).trans h2; have a1 : Rep E_impl_DiagramNode A' w' (R' 16) (p0.1, p0.2.1, p0.2.2.1, p0.2.2.2) := hd 0 _ _ _ rfl rfl rfl rfl rfl; exact took_store a1 a0 (hin _ rfl) hok hav (FldS.id _) Try.sizeOf92 rfl) <|
      OblsR.nil
  intro done ρ A R w hdn hI
  replace h2 : R 2 = (.pointer (some ⟨b2_1, 0, none⟩)) := (hI.reg rfl).trans h2
  have z22 := hI.inivR 0 rfl
  have z23 := (hI.opnR hdn 3 1 rfl rfl rfl rfl rfl).trans z22
  have z24 := hI.inivR 1 rfl
  replace hAA := hI.low' hAA hA0 (hO.ge (⟨rfl, ⟨rfl, trivial⟩⟩))
  replace hF : Fr w0 w := Below.trans hF (hI.ch.below hF.size (hO.ge (⟨rfl, ⟨rfl, trivial⟩⟩)))
  replace hO : IniOK [((.pointer (some ⟨b2_1, 0, none⟩)), .box w0.heap.size 92 E_impl_DiagramNode (p0.1, p0.2.1, p0.2.2.1, p0.2.2.2))] A w := hI.left hdn [(3, (.pointer (some ⟨b2_1, 0, none⟩)), .box w0.heap.size 92 E_impl_DiagramNode (p0.1, p0.2.1, p0.2.2.1, p0.2.2.2))] ⟨rfl, rfl, z23, rfl, trivial⟩
  replace hA := hI.avok
  clear hI
  refine HT.ret ?_
  obtain rfl := Option.some.inj hr
  obtain ⟨v_2, e_2, p_2⟩ := res_cell (hO.ok 0 _ rfl).1 h2 Try.isAgg92 Try.sizeOf92 hAA
  exact ⟨.inr rfl, [v_2], ⟨e_2, trivial⟩, p_2, hF⟩
def M_laws_toDiagramNodeS_L0 (fu : Nat) (p0 : List T_impl_DiagramNode) : Nat → Int → (List T_impl_DiagramNode) → Option (List T_impl_DiagramNode)
  | 0, _, _ => none
  | k + 1, y6, y7 =>
    bif (decide (y6 < (p0.length : Int))) then (
      ck (inR y6 p0.length) <|
      cl true (M_laws_toDiagramNode fu (gtD p0 y6)) fun x10 =>
      ck (inR y6 y7.length) <|
      ck (i64B (y6 + (1 : Int))) <|
      M_laws_toDiagramNodeS_L0 fu p0 k (y6 + (1 : Int)) (y7.set y6.toNat x10)
    ) else (
      some y7
    )
def M_laws_toDiagramNodeS (fu : Nat) (p0 : List T_impl_DiagramNode) : Option (List T_impl_DiagramNode) :=
  ck (mkOK (p0.length : Int)) <|
  cl true (M_laws_toDiagramNodeS_L0 fu p0 fu (0 : Int) (List.replicate (p0.length : Int).toNat ((0 : Int), ((0 : Int), ((0 : Int), (0 : Int)))))) fun s5 =>
  some s5
set_option maxRecDepth 100000 in
set_option maxHeartbeats 4000000 in
theorem M_laws_toDiagramNodeS_ok {fu : Nat} {A0 : Av} {p0 : List T_impl_DiagramNode} {r : List T_impl_DiagramNode} (hr : M_laws_toDiagramNodeS fu p0 = some r) {w : World} {v0 : Value} (hA : AvOK A0 w) (h0 : Rep (eSl E_impl_DiagramNode) A0 w v0 p0) :
    Calls Try.prog 72 #[v0] w fun e w' => ∃ v, e = .returned v ∧ ((Res.vec w.heap.size 92 E_impl_DiagramNode r).ok (addA A0 v) v w' ∧ Fr w w') := by
  unfold M_laws_toDiagramNodeS at hr
  obtain ⟨w0, hw0⟩ : ∃ w0, w0 = w := ⟨_, rfl⟩
  have hF : Fr w0 w := hw0 ▸ Fr.refl _
  have hA0 : ∀ b o, A0 b o → b < w0.heap.size := fun b o h => hw0 ▸ hA b o h
  have hA00 : AvOK A0 w0 := hA0
  rw [show w.heap.size = w0.heap.size from hw0 ▸ rfl]
  rw [show Fr w = Fr w0 from hw0 ▸ rfl]
  clear hw0
  obtain ⟨A, hAe⟩ : ∃ A, A = A0 := ⟨_, rfl⟩
  have hAA : ∀ b o, A0 b o → A b o := fun b o h => hAe ▸ h
  replace hA : AvOK A w := hAe ▸ hA
  have hO : IniOK [] A w := IniOK.nil
  refine calls_of_HT2 [.tmp 2] Try.func72 Try.ntmps72 (by decide) rfl rfl (Nat.le_of_ble_eq_true rfl) ?_
  intro R hR
  have f_v0 : Rep (eSl E_impl_DiagramNode) A w v0 p0 := hAe ▸ h0
  replace h0 : R 0 = v0 := hR 0 _ rfl
  clear hR hAe
  refine HT.seq ?_
  refine HT.text (l := ⟨_, true, .any⟩ :: []) (tl := []) (by kernel_rfl) (by kernel_rfl) (by kernel_rfl) ?_ ?_
  · exact
      Obls.cons (Obl.plain rfl rfl fun R' w' hw hs hd => by exact of_assign trivial) <|
      Obls.nil
  intro R w hw hs hF'
  replace h0 : R 0 = v0 := (hs 0 rfl).trans h0
  replace f_v0 := f_v0.fr hw
  replace hO := hO.fr hw
  replace hA := hA.fr hw.size
  replace hF := hF.trans hw
  clear hs hF' hw
  refine seqR_nil ?_
  refine HT.seq ?_
  obtain ⟨e1, hr⟩ := ck_some hr
  refine HT.textR [] (⟨_, true, none, none, true, fun A => .raw v0⟩ :: ⟨_, true, none, none, true, fun A => .raw (.int .i64 (p0.length : Int))⟩ :: ⟨_, true, none, some (.vec w0.heap.size 92 E_impl_DiagramNode (List.replicate (p0.length : Int).toNat ((0 : Int), ((0 : Int), ((0 : Int), (0 : Int)))))), true, fun A => .any⟩ :: ⟨_, true, some 2, some (.vec w0.heap.size 92 E_impl_DiagramNode (List.replicate (p0.length : Int).toNat ((0 : Int), ((0 : Int), ((0 : Int), (0 : Int)))))), true, fun A => .any⟩ :: []) (by kernel_rfl) (by kernel_rfl) (Wf.mk' (by kernel_rfl) (UAll.cons ust_raw (UAll.cons ust_raw (UAll.cons ust_any (UAll.cons ust_any (UAll.nil))))) (by kernel_rfl) (by kernel_rfl)) hO hA ?_ ?_
  · exact
      OblsR.cons (OblR.plain rfl rfl rfl rfl fun A' R' w' ho hd => by have a0 : R' 0 = v0 := (ho.old 0 rfl).trans h0; exact of_move a0) <|
      OblsR.cons (OblR.plain rfl rfl rfl rfl fun A' R' w' ho hd => by have a0 : R' 5 = v0 := hd 0 _ _ _ rfl rfl rfl rfl rfl; have ra0 := (f_v0.stp ho.stp).eq a0; exact of_len_sl (aT := #[]) ra0 Try.underlying36) <|
      OblsR.cons (OblR.made _ rfl rfl rfl rfl fun A' R' w' ho hd => by have a0 : R' 6 = .int .i64 (p0.length : Int) := hd 0 _ _ _ rfl rfl rfl rfl rfl; have a1 : R' 6 = .int .i64 (p0.length : Int) := hd 0 _ _ _ rfl rfl rfl rfl rfl; exact made_make a0 a1 e1 Try.underlying41 el_92 Try.zeroValue92 (fun A w => rep_pr rep1_int (rep_pr rep1_int (rep_pr rep1_int rep1_int))) (Nat.le_trans hF.size ho.ch.size)) <|
      OblsR.cons (OblR.took 2 _ _ rfl rfl rfl rfl rfl fun A' R' w' ho hd u hok hav hin hop => by exact took_assign (hop _ _ rfl rfl rfl rfl).symm hok hav) <|
      OblsR.nil
  intro done ρ A R w hdn hI
  replace h0 : R 0 = v0 := (hI.reg rfl).trans h0
  obtain ⟨u2, e_u2⟩ : ∃ u, ρ 3 = u := ⟨_, rfl⟩
  have h3 : R 3 = u2 := (hI.opvR hdn 3 3 rfl rfl rfl rfl rfl).symm.trans e_u2
  replace f_v0 := f_v0.stp hI.stp
  replace hAA := hI.low' hAA hA0 (hO.ge (trivial))
  replace hF : Fr w0 w := Below.trans hF (hI.ch.below hF.size (hO.ge (trivial)))
  replace hO : IniOK [(u2, .vec w0.heap.size 92 E_impl_DiagramNode (List.replicate (p0.length : Int).toNat ((0 : Int), ((0 : Int), ((0 : Int), (0 : Int))))))] A w := hI.left hdn [(3, u2, .vec w0.heap.size 92 E_impl_DiagramNode (List.replicate (p0.length : Int).toNat ((0 : Int), ((0 : Int), ((0 : Int), (0 : Int))))))] ⟨rfl, rfl, e_u2, rfl, trivial⟩
  replace hA := hI.avok
  clear hI
  refine HT.seq ?_
  refine HT.seq ?_
  refine HT.text (l := ⟨_, true, .raw (.int .i64 (0 : Int))⟩ :: []) (tl := []) (by kernel_rfl) (by kernel_rfl) (by kernel_rfl) ?_ ?_
  · exact
      Obls.cons (Obl.plain rfl rfl fun R' w' hw hs hd => by exact of_assign rfl) <|
      Obls.nil
  intro R w hw hs hF'
  replace h0 : R 0 = v0 := (hs 0 rfl).trans h0
  replace h3 : R 3 = u2 := (hs 3 rfl).trans h3
  have h4 : R 4 = .int .i64 (0 : Int) := hF' 0 _ _ rfl rfl rfl
  replace f_v0 := f_v0.fr hw
  replace hO := hO.fr hw
  replace hA := hA.fr hw.size
  replace hF := hF.trans hw
  clear hs hF' hw
  refine seqR_nil ?_
  obtain ⟨rl3, q4, hr⟩ := cl_some hr
  replace q4 := q4 rfl
  refine HT.cut0 (fun R w => ∃ A : Av, ∃ (s5 : (List T_impl_DiagramNode)), rl3 = s5 ∧ AvOK A w ∧ Fr w0 w ∧ (∀ b o, A0 b o → A b o) ∧ IniOK [(u2, .vec w0.heap.size 92 E_impl_DiagramNode s5)] A w ∧ R 3 = u2) ?_ ?_
  · refine HT.block ?_
    refine HT.loop (fun k R w => ∃ A : Av, ∃ (y6 : Int) (y7 : List T_impl_DiagramNode), M_laws_toDiagramNodeS_L0 fu p0 k y6 y7 = some rl3 ∧ AvOK A w ∧ Fr w0 w ∧ (∀ b o, A0 b o → A b o) ∧ IniOK [(u2, .vec w0.heap.size 92 E_impl_DiagramNode y7)] A w ∧ R 0 = v0 ∧ R 3 = u2 ∧ R 4 = .int .i64 y6 ∧ Rep (eSl E_impl_DiagramNode) A w v0 p0) fu ⟨_, _, _, q4, hA, hF, hAA, hO, h0, h3, h4, f_v0⟩ ?_
    have hr0 := hr; clear hr q4
    rintro k R w ⟨A, y6, y7, hr, hA, hF, hAA, hO, h0, h3, h4, f_v0⟩
    rcases k with _ | k
    · cases (show none = some _ from hr)
    rw [M_laws_toDiagramNodeS_L0] at hr
    refine HT.seq ?_
    refine HT.seq ?_
    refine HT.text (l := ⟨_, true, .raw (.int .i64 y6)⟩ :: ⟨_, true, .raw v0⟩ :: ⟨_, true, .raw (.int .i64 (p0.length : Int))⟩ :: ⟨_, true, .raw (.bool (decide (y6 < (p0.length : Int))))⟩ :: []) (tl := []) (by kernel_rfl) (by kernel_rfl) (by kernel_rfl) ?_ ?_
    · exact
        Obls.cons (Obl.plain rfl rfl fun R' w' hw hs hd => by have a0 : R' 4 = .int .i64 y6 := (hs 4 rfl).trans h4; exact of_move a0) <|
        Obls.cons (Obl.plain rfl rfl fun R' w' hw hs hd => by have a0 : R' 0 = v0 := (hs 0 rfl).trans h0; exact of_move a0) <|
        Obls.cons (Obl.plain rfl rfl fun R' w' hw hs hd => by have a0 : R' 9 = v0 := hd 0 _ _ _ rfl rfl rfl rfl rfl; have ra0 := (f_v0.fr hw).eq a0; exact of_len_sl (aT := #[]) ra0 Try.underlying36) <|
        Obls.cons (Obl.plain rfl rfl fun R' w' hw hs hd => by have a0 : R' 8 = .int .i64 y6 := hd 0 _ _ _ rfl rfl rfl rfl rfl; have a1 : R' 10 = .int .i64 (p0.length : Int) := hd 1 _ _ _ rfl rfl rfl rfl rfl; exact of_lss a0 a1) <|
        Obls.nil
    intro R w hw hs hF'
    replace h0 : R 0 = v0 := (hs 0 rfl).trans h0
    replace h3 : R 3 = u2 := (hs 3 rfl).trans h3
    replace h4 : R 4 = .int .i64 y6 := (hs 4 rfl).trans h4
    have h11 : R 11 = .bool (decide (y6 < (p0.length : Int))) := hF' 3 _ _ rfl rfl rfl
    replace f_v0 := f_v0.fr hw
    replace hO := hO.fr hw
    replace hA := hA.fr hw.size
    replace hF := hF.trans hw
    clear hs hF' hw
    refine seqR_nil ?_
    refine HT.cond (decide (y6 < (p0.length : Int))) h11 (fun c8 => ?_) (fun c8 => ?_)
    · have hr := cnd_t c8 hr
      refine HT.skip ?_
      refine HT.seq ?_
      refine HT.block ?_
      obtain ⟨e9, hr⟩ := ck_some hr
      obtain ⟨x10, q11, hr⟩ := cl_some hr
      obtain ⟨e12, hr⟩ := ck_some hr
      refine HT.textR [(u2, .vec w0.heap.size 92 E_impl_DiagramNode y7)] (⟨_, true, none, none, true, fun A => .raw u2⟩ :: ⟨_, true, none, none, true, fun A => .raw (.int .i64 y6)⟩ :: ⟨_, true, none, none, true, fun A => .raw v0⟩ :: ⟨_, true, none, none, true, fun A => .raw (.int .i64 y6)⟩ :: ⟨_, true, none, none, true, fun A => .qtr E_impl_DiagramNode A (gtD p0 y6)⟩ :: ⟨_, true, none, none, true, fun A => .rep E_impl_DiagramNode A (gtD p0 y6)⟩ :: ⟨_, true, none, none, true, fun A => .rep E_impl_DiagramNode A x10⟩ :: ⟨_, true, none, none, true, fun A => .raw (vptr u2 (y6.toNat * 4))⟩ :: ⟨_, true, some 0, some (.vec w0.heap.size 92 E_impl_DiagramNode (y7.set y6.toNat x10)), false, fun A => .any⟩ :: []) (by kernel_rfl) (by kernel_rfl) (Wf.mk' (by kernel_rfl) (UAll.cons ust_raw (UAll.cons ust_raw (UAll.cons ust_raw (UAll.cons ust_raw (UAll.cons ust_qtr (UAll.cons ust_rep (UAll.cons ust_rep (UAll.cons ust_raw (UAll.cons ust_any (UAll.nil)))))))))) (by kernel_rfl) (by kernel_rfl)) hO hA ?_ ?_
      · exact
          OblsR.cons (OblR.plain rfl rfl rfl rfl fun A' R' w' ho hd => by have a0 : R' 3 = u2 := (ho.old 3 rfl).trans h3; exact of_move a0) <|
          OblsR.cons (OblR.plain rfl rfl rfl rfl fun A' R' w' ho hd => by have a0 : R' 4 = .int .i64 y6 := (ho.old 4 rfl).trans h4; exact of_move a0) <|
          OblsR.cons (OblR.plain rfl rfl rfl rfl fun A' R' w' ho hd => by have a0 : R' 0 = v0 := (ho.old 0 rfl).trans h0; exact of_move a0) <|
          OblsR.cons (OblR.plain rfl rfl rfl rfl fun A' R' w' ho hd => by have a0 : R' 4 = .int .i64 y6 := (ho.old 4 rfl).trans h4; exact of_move a0) <|
          OblsR.cons (OblR.plain rfl rfl rfl rfl fun A' R' w' ho hd => by have a0 : R' 16 = v0 := hd 0 _ _ _ rfl rfl rfl rfl rfl; have a1 : R' 17 = .int .i64 y6 := hd 1 _ _ _ rfl rfl rfl rfl rfl; have ra0 := (f_v0.stp ho.stp).eq a0; exact of_indexAddr ra0 a1 Try.underlying36 Try.sizeOf137 e9) <|
          OblsR.cons (OblR.plain rfl rfl rfl rfl fun A' R' w' ho hd => by have a0 : QRep E_impl_DiagramNode A' w' (R' 18) (gtD p0 y6) := hd 0 _ _ _ rfl rfl rfl rfl rfl; exact (of_load a0.ptr Try.isAgg137 Try.sizeOf137)) <|
          OblsR.cons (OblR.plain rfl rfl rfl rfl fun A' R' w' ho hd => by have a0 : Rep E_impl_DiagramNode A' w' (R' 19) (gtD p0 y6) := hd 0 _ _ _ rfl rfl rfl rfl rfl; exact of_call Try.call112 (M_laws_toDiagramNode_ok (q11 rfl) ho.av a0)) <|
          OblsR.cons (OblR.plain rfl rfl rfl rfl fun A' R' w' ho hd => by have a0 : R' 14 = u2 := hd 0 _ _ _ rfl rfl rfl rfl rfl; have a1 : R' 15 = .int .i64 y6 := hd 1 _ _ _ rfl rfl rfl rfl rfl; exact of_indexAddr_vec (hO.ok 0 _ rfl).1 a0 a1 Try.underlying41 Try.sizeOf92 e12 rfl) <|
          OblsR.cons (OblR.took 0 _ _ rfl rfl rfl rfl rfl fun A' R' w' ho hd u hok hav hin hop => by have a0 : R' 21 = (vptr u2 (y6.toNat * 4)) := hd 0 _ _ _ rfl rfl rfl rfl rfl; have a1 : Rep E_impl_DiagramNode A' w' (R' 20) x10 := hd 1 _ _ _ rfl rfl rfl rfl rfl; obtain rfl := hin _ rfl; exact took_vstore a1 hok hav a0 e12 rfl (FldS.id _) Try.sizeOf92 rfl) <|
          OblsR.nil
      intro done ρ A R w hdn hI
      replace h0 : R 0 = v0 := (hI.reg rfl).trans h0
      replace h3 : R 3 = u2 := (hI.reg rfl).trans h3
      replace h4 : R 4 = .int .i64 y6 := (hI.reg rfl).trans h4
      have z13 := hI.inivR 0 rfl
      have z14 := (hI.opnR hdn 9 8 rfl rfl rfl rfl rfl).trans z13
      replace f_v0 := f_v0.stp hI.stp
      replace hAA := hI.low' hAA hA0 (hO.ge (⟨rfl, trivial⟩))
      replace hF : Fr w0 w := Below.trans hF (hI.ch.below hF.size (hO.ge (⟨rfl, trivial⟩)))
      replace hO : IniOK [(u2, .vec w0.heap.size 92 E_impl_DiagramNode (y7.set y6.toNat x10))] A w := hI.left hdn [(9, u2, .vec w0.heap.size 92 E_impl_DiagramNode (y7.set y6.toNat x10))] ⟨rfl, rfl, z14, rfl, trivial⟩
      replace hA := hI.avok
      clear hI
      obtain ⟨e15, hr⟩ := ck_some hr
      refine HT.text (l := ⟨_, true, .raw (.int .i64 y6)⟩ :: ⟨_, true, .raw (.int .i64 (y6 + (1 : Int)))⟩ :: ⟨_, true, .raw (.int .i64 (y6 + (1 : Int)))⟩ :: []) (tl := []) (by kernel_rfl) (by kernel_rfl) (by kernel_rfl) ?_ ?_
      · exact
          Obls.cons (Obl.plain rfl rfl fun R' w' hw hs hd => by have a0 : R' 4 = .int .i64 y6 := (hs 4 rfl).trans h4; exact of_move a0) <|
          Obls.cons (Obl.plain rfl rfl fun R' w' hw hs hd => by have a0 : R' 12 = .int .i64 y6 := hd 0 _ _ _ rfl rfl rfl rfl rfl; exact of_add a0 rfl e15) <|
          Obls.cons (Obl.plain rfl rfl fun R' w' hw hs hd => by have a0 : R' 13 = .int .i64 (y6 + (1 : Int)) := hd 0 _ _ _ rfl rfl rfl rfl rfl; exact of_assign a0) <|
          Obls.nil
      intro R w hw hs hF'
      replace h0 : R 0 = v0 := (hs 0 rfl).trans h0
      replace h3 : R 3 = u2 := (hs 3 rfl).trans h3
      have h4 : R 4 = .int .i64 (y6 + (1 : Int)) := hF' 2 _ _ rfl rfl rfl
      replace f_v0 := f_v0.fr hw
      replace hO := hO.fr hw
      replace hA := hA.fr hw.size
      replace hF := hF.trans hw
      clear hs hF' hw
      refine seqR_nil ?_
      exact Exists.intro k (And.intro (Nat.lt_succ_self k) ⟨_, _, _, hr, hA, hF, hAA, hO, h0, h3, h4, f_v0⟩)
    · have hr := cnd_f c8 hr
      refine HT.exit ?_
      obtain rfl := Option.some.inj hr
      exact Exists.intro _ ⟨_, rfl, hA, hF, hAA, hO, h3⟩
  rintro R w ⟨A, s5, es, hA, hF, hAA, hO, h3⟩
  obtain rfl := es.symm
  refine HT.seq ?_
  refine HT.text (l := ⟨_, true, .raw u2⟩ :: ⟨_, true, .raw u2⟩ :: []) (tl := []) (by kernel_rfl) (by kernel_rfl) (by kernel_rfl) ?_ ?_
  · exact
      Obls.cons (Obl.plain rfl rfl fun R' w' hw hs hd => by have a0 : R' 3 = u2 := (hs 3 rfl).trans h3; exact of_move a0) <|
      Obls.cons (Obl.plain rfl rfl fun R' w' hw hs hd => by have a0 : R' 22 = u2 := hd 0 _ _ _ rfl rfl rfl rfl rfl; exact of_assign a0) <|
      Obls.nil
  intro R w hw hs hF'
  have h2 : R 2 = u2 := hF' 1 _ _ rfl rfl rfl
  replace hO := hO.fr hw
  replace hA := hA.fr hw.size
  replace hF := hF.trans hw
  clear hs hF' hw
  refine seqR_nil ?_
  refine HT.ret ?_
  obtain rfl := Option.some.inj hr
  exact ⟨.inr rfl, [R 2], ⟨rfl, trivial⟩, (own_post (hO.ok 0 _ rfl) hAA h2), hF⟩
theorem M_laws_toDiagramNodeS_okR {fu : Nat} {A0 : Av} {p0 : List T_impl_DiagramNode} {r : List T_impl_DiagramNode} (hr : M_laws_toDiagramNodeS fu p0 = some r) {w : World} {v0 : Value} (hA : AvOK A0 w) (h0 : Rep (eSl E_impl_DiagramNode) A0 w v0 p0) :
    Calls Try.prog 72 #[v0] w fun e w' => ∃ v, e = .returned v ∧ (Rep (eSl E_impl_DiagramNode) A0 w' v r ∧ Fr w w') := by
  refine Calls.mono (M_laws_toDiagramNodeS_ok hr hA h0) ?_
  rintro e w' ⟨v, he, hv, hf⟩
  exact ⟨v, he, vec_rep hv (fun b o h => .inl h) hA, hf⟩
def M_laws_toDiagram (fu : Nat) (p0 : T_laws_Diagram) : Option T_impl_Diagram :=
  cl true (M_laws_toDiagramNodeS fu p0.2) fun x10 =>
  some (p0.1, x10)
set_option maxRecDepth 100000 in
set_option maxHeartbeats 4000000 in
theorem M_laws_toDiagram_ok {fu : Nat} {A0 : Av} {p0 : T_laws_Diagram} {r : T_impl_Diagram} (hr : M_laws_toDiagram fu p0 = some r) {w : World} {v0 : Value} (hA : AvOK A0 w) (h0 : Rep E_laws_Diagram A0 w v0 p0) :
    Calls Try.prog 24 #[v0] w fun e w' => ∃ v, e = .returned v ∧ (Rep E_impl_Diagram A0 w' v r ∧ Fr w w') := by
  unfold M_laws_toDiagram at hr
  obtain ⟨w0, hw0⟩ : ∃ w0, w0 = w := ⟨_, rfl⟩
  have hF : Fr w0 w := hw0 ▸ Fr.refl _
  have hA0 : ∀ b o, A0 b o → b < w0.heap.size := fun b o h => hw0 ▸ hA b o h
  have hA00 : AvOK A0 w0 := hA0
  rw [show Fr w = Fr w0 from hw0 ▸ rfl]
  clear hw0
  obtain ⟨A, hAe⟩ : ∃ A, A = A0 := ⟨_, rfl⟩
  have hAA : ∀ b o, A0 b o → A b o := fun b o h => hAe ▸ h
  replace hA : AvOK A w := hAe ▸ hA
  have hO : IniOK [] A w := IniOK.nil
  refine calls_of_HT2 [.cell 2 43] Try.func24 Try.ntmps24 (by decide) rfl rfl (Nat.le_of_ble_eq_true rfl) ?_
  intro R hR
  have f_v0 : Rep E_laws_Diagram A w v0 p0 := hAe ▸ h0
  replace h0 : R 0 = v0 := hR 0 _ rfl
  clear hR hAe
  refine HT.seq ?_
  refine HT.textR [] (⟨_, true, none, some (.box w0.heap.size 38 E_laws_Diagram p0), true, fun A => .any⟩ :: ⟨_, true, none, some (.box w0.heap.size 43 E_impl_Diagram ((0 : Int), ([] : List T_impl_DiagramNode))), true, fun A => .any⟩ :: []) (by kernel_rfl) (by kernel_rfl) (Wf.mk' (by kernel_rfl) (UAll.cons ust_any (UAll.cons ust_any (UAll.nil))) (by kernel_rfl) (by kernel_rfl)) hO hA ?_ ?_
  · exact
      OblsR.cons (OblR.made _ rfl rfl rfl rfl fun A' R' w' ho hd => by have a0 : R' 0 = v0 := (ho.old 0 rfl).trans h0; have ra0 := (f_v0.stp ho.stp).eq a0; exact made_box ra0 (Nat.le_trans hF.size ho.ch.size)) <|
      OblsR.cons (OblR.made _ rfl rfl rfl rfl fun A' R' w' ho hd => by exact made_alloc Try.zeroValue43 (fun A w => rep_pr rep1_int rep1_nil) (Nat.le_trans hF.size ho.ch.size)) <|
      OblsR.nil
  intro done ρ A R w hdn hI
  obtain ⟨b1_0, e_b1_0⟩ := hI.boxv hdn 0 rfl rfl
  have h1 : R 1 = (.pointer (some ⟨b1_0, 0, none⟩)) := (hI.opvR hdn 0 0 rfl rfl rfl rfl rfl).symm.trans e_b1_0
  obtain ⟨b2_1, e_b2_1⟩ := hI.boxv hdn 1 rfl rfl
  have h2 : R 2 = (.pointer (some ⟨b2_1, 0, none⟩)) := (hI.opvR hdn 1 1 rfl rfl rfl rfl rfl).symm.trans e_b2_1
  replace hAA := hI.low' hAA hA0 (hO.ge (trivial))
  replace hF : Fr w0 w := Below.trans hF (hI.ch.below hF.size (hO.ge (trivial)))
  replace hO : IniOK [((.pointer (some ⟨b1_0, 0, none⟩)), .box w0.heap.size 38 E_laws_Diagram p0), ((.pointer (some ⟨b2_1, 0, none⟩)), .box w0.heap.size 43 E_impl_Diagram ((0 : Int), ([] : List T_impl_DiagramNode)))] A w := hI.left hdn [(0, (.pointer (some ⟨b1_0, 0, none⟩)), .box w0.heap.size 38 E_laws_Diagram p0), (1, (.pointer (some ⟨b2_1, 0, none⟩)), .box w0.heap.size 43 E_impl_Diagram ((0 : Int), ([] : List T_impl_DiagramNode)))] ⟨rfl, rfl, e_b1_0, rfl, ⟨rfl, rfl, e_b2_1, rfl, trivial⟩⟩
  replace hA := hI.avok
  clear hI
  refine HT.seq ?_
  refine HT.textR [((.pointer (some ⟨b1_0, 0, none⟩)), .box w0.heap.size 38 E_laws_Diagram p0), ((.pointer (some ⟨b2_1, 0, none⟩)), .box w0.heap.size 43 E_impl_Diagram ((0 : Int), ([] : List T_impl_DiagramNode)))] (⟨_, true, none, some (.box w0.heap.size 43 E_impl_Diagram ((0 : Int), ([] : List T_impl_DiagramNode))), true, fun A => .any⟩ :: []) (by kernel_rfl) (by kernel_rfl) (Wf.mk' (by kernel_rfl) (UAll.cons ust_any (UAll.nil)) (by kernel_rfl) (by kernel_rfl)) hO hA ?_ ?_
  · exact
      OblsR.cons (OblR.made _ rfl rfl rfl rfl fun A' R' w' ho hd => by exact made_alloc Try.zeroValue43 (fun A w => rep_pr rep1_int rep1_nil) (Nat.le_trans hF.size ho.ch.size)) <|
      OblsR.nil
  intro done ρ A R w hdn hI
  replace h1 : R 1 = (.pointer (some ⟨b1_0, 0, none⟩)) := (hI.reg rfl).trans h1
  replace h2 : R 2 = (.pointer (some ⟨b2_1, 0, none⟩)) := (hI.reg rfl).trans h2
  have z3 := hI.inivR 0 rfl
  have z4 := hI.inivR 1 rfl
  obtain ⟨b3_4, e_b3_4⟩ := hI.boxv hdn 2 rfl rfl
  have h3 : R 3 = (.pointer (some ⟨b3_4, 0, none⟩)) := (hI.opvR hdn 2 0 rfl rfl rfl rfl rfl).symm.trans e_b3_4
  replace hAA := hI.low' hAA hA0 (hO.ge (⟨rfl, ⟨rfl, trivial⟩⟩))
  replace hF : Fr w0 w := Below.trans hF (hI.ch.below hF.size (hO.ge (⟨rfl, ⟨rfl, trivial⟩⟩)))
  replace hO : IniOK [((.pointer (some ⟨b1_0, 0, none⟩)), .box w0.heap.size 38 E_laws_Diagram p0), ((.pointer (some ⟨b2_1, 0, none⟩)), .box w0.heap.size 43 E_impl_Diagram ((0 : Int), ([] : List T_impl_DiagramNode))), ((.pointer (some ⟨b3_4, 0, none⟩)), .box w0.heap.size 43 E_impl_Diagram ((0 : Int), ([] : List T_impl_DiagramNode)))] A w := hI.left hdn [(0, (.pointer (some ⟨b1_0, 0, none⟩)), .box w0.heap.size 38 E_laws_Diagram p0), (1, (.pointer (some ⟨b2_1, 0, none⟩)), .box w0.heap.size 43 E_impl_Diagram ((0 : Int), ([] : List T_impl_DiagramNode))), (2, (.pointer (some ⟨b3_4, 0, none⟩)), .box w0.heap.size 43 E_impl_Diagram ((0 : Int), ([] : List T_impl_DiagramNode)))] ⟨rfl, rfl, z3, rfl, ⟨rfl, rfl, z4, rfl, ⟨rfl, rfl, e_b3_4, rfl, trivial⟩⟩⟩
  replace hA := hI.avok
  clear hI
  refine HT.seq ?_
  refine HT.textR [((.pointer (some ⟨b1_0, 0, none⟩)), .box w0.heap.size 38 E_laws_Diagram p0), ((.pointer (some ⟨b2_1, 0, none⟩)), .box w0.heap.size 43 E_impl_Diagram ((0 : Int), ([] : List T_impl_DiagramNode))), ((.pointer (some ⟨b3_4, 0, none⟩)), .box w0.heap.size 43 E_impl_Diagram ((0 : Int), ([] : List T_impl_DiagramNode)))] (⟨_, true, none, none, true, fun A => .raw (.pointer (some ⟨b1_0, 0, none⟩))⟩ :: ⟨_, true, none, none, true, fun A => .raw (.int .i64 p0.1)⟩ :: ⟨_, true, none, none, true, fun A => .raw (.pointer (some ⟨b3_4, 0, none⟩))⟩ :: ⟨_, true, some 2, some (.box w0.heap.size 43 E_impl_Diagram (p0.1, ([] : List T_impl_DiagramNode))), false, fun A => .any⟩ :: []) (by kernel_rfl) (by kernel_rfl) (Wf.mk' (by kernel_rfl) (UAll.cons ust_raw (UAll.cons ust_raw (UAll.cons ust_raw (UAll.cons ust_any (UAll.nil))))) (by kernel_rfl) (by kernel_rfl)) hO hA ?_ ?_
  · exact
      OblsR.cons (OblR.plain rfl rfl rfl rfl fun A' R' w' ho hd => by have a0 : R' 1 = (.pointer (some ⟨b1_0, 0, none⟩)) := (ho.old 1 rfl).trans h1; exact of_fieldAddr_raw a0 ff_38_0 Try.sizeOf3 (by decide) rfl) <|
      OblsR.cons (OblR.plain rfl rfl rfl rfl fun A' R' w' ho hd => by have a0 : R' 4 = (.pointer (some ⟨b1_0, 0, none⟩)) := hd 0 _ _ _ rfl rfl rfl rfl rfl; exact OpF.int (of_load_box (ho.rd 0 _ rfl rfl) a0 fl_laws_Diagram_0 rfl Try.isAgg3 Try.sizeOf3)) <|
      OblsR.cons (OblR.plain rfl rfl rfl rfl fun A' R' w' ho hd => by have a0 : R' 3 = (.pointer (some ⟨b3_4, 0, none⟩)) := (ho.old 3 rfl).trans h3; exact of_fieldAddr_raw a0 ff_43_0 Try.sizeOf3 (by decide) rfl) <|
      OblsR.cons (OblR.took 2 _ _ rfl rfl rfl rfl rfl fun A' R' w' ho hd u hok hav hin hop => by have a0 : R' 6 = (.pointer (some ⟨b3_4, 0, none⟩)) := hd 0 _ _ _ rfl rfl rfl rfl rfl; have a1 : R' 5 = .int .i64 p0.1 := hd 1 _ _ _ rfl rfl rfl rfl rfl; exact took_store (rep_int.eq a1) a0 (hin _ rfl) hok hav fs_impl_Diagram_0 Try.sizeOf3 rfl) <|
      OblsR.nil
  intro done ρ A R w hdn hI
  replace h1 : R 1 = (.pointer (some ⟨b1_0, 0, none⟩)) := (hI.reg rfl).trans h1
  replace h2 : R 2 = (.pointer (some ⟨b2_1, 0, none⟩)) := (hI.reg rfl).trans h2
  replace h3 : R 3 = (.pointer (some ⟨b3_4, 0, none⟩)) := (hI.reg rfl).trans h3
  have z6 := hI.inivR 0 rfl
  have z7 := hI.inivR 1 rfl
  have z8 := hI.inivR 2 rfl
  have z9 := (hI.opnR hdn 6 3 rfl rfl rfl rfl rfl).trans z8
  replace hAA := hI.low' hAA hA0 (hO.ge (⟨rfl, ⟨rfl, ⟨rfl, trivial⟩⟩⟩))
  replace hF : Fr w0 w := Below.trans hF (hI.ch.below hF.size (hO.ge (⟨rfl, ⟨rfl, ⟨rfl, trivial⟩⟩⟩)))
  replace hO : IniOK [((.pointer (some ⟨b1_0, 0, none⟩)), .box w0.heap.size 38 E_laws_Diagram p0), ((.pointer (some ⟨b2_1, 0, none⟩)), .box w0.heap.size 43 E_impl_Diagram ((0 : Int), ([] : List T_impl_DiagramNode))), ((.pointer (some ⟨b3_4, 0, none⟩)), .box w0.heap.size 43 E_impl_Diagram (p0.1, ([] : List T_impl_DiagramNode)))] A w := hI.left hdn [(0, (.pointer (some ⟨b1_0, 0, none⟩)), .box w0.heap.size 38 E_laws_Diagram p0), (1, (.pointer (some ⟨b2_1, 0, none⟩)), .box w0.heap.size 43 E_impl_Diagram ((0 : Int), ([] : List T_impl_DiagramNode))), (6, (.pointer (some ⟨b3_4, 0, none⟩)), .box w0.heap.size 43 E_impl_Diagram (p0.1, ([] : List T_impl_DiagramNode)))] ⟨rfl, rfl, z6, rfl, ⟨rfl, rfl, z7, rfl, ⟨rfl, rfl, z9, rfl, trivial⟩⟩⟩
  replace hA := hI.avok
  clear hI
  refine HT.seq ?_
  obtain ⟨x10, q11, hr⟩ := cl_some hr
  refine HT.textR [((.pointer (some ⟨b1_0, 0, none⟩)), .box w0.heap.size 38 E_laws_Diagram p0), ((.pointer (some ⟨b2_1, 0, none⟩)), .box w0.heap.size 43 E_impl_Diagram ((0 : Int), ([] : List T_impl_DiagramNode))), ((.pointer (some ⟨b3_4, 0, none⟩)), .box w0.heap.size 43 E_impl_Diagram (p0.1, ([] : List T_impl_DiagramNode)))] (⟨_, true, none, none, true, fun A => .raw (.pointer (some ⟨b1_0, 1, none⟩))⟩ :: ⟨_, true, none, none, true, fun A => .rep (eSl E_impl_DiagramNode) A p0.2⟩ :: ⟨_, true, none, none, true, fun A => .rep (eSl E_impl_DiagramNode) A x10⟩ :: ⟨_, true, none, none, true, fun A => .raw (.pointer (some ⟨b3_4, 1, none⟩))⟩ :: ⟨_, true, some 2, some (.box w0.heap.size 43 E_impl_Diagram (p0.1, x10)), false, fun A => .any⟩ :: []) (by kernel_rfl) (by kernel_rfl) (Wf.mk' (by kernel_rfl) (UAll.cons ust_raw (UAll.cons ust_rep (UAll.cons ust_rep (UAll.cons ust_raw (UAll.cons ust_any (UAll.nil)))))) (by kernel_rfl) (by kernel_rfl)) hO hA ?_ ?_
  · exact
      OblsR.cons (OblR.plain rfl rfl rfl rfl fun A' R' w' ho hd => by have a0 : R' 1 = (.pointer (some ⟨b1_0, 0, none⟩)) := (ho.old 1 rfl).trans h1; exact of_fieldAddr_raw a0 ff_38_1 Try.sizeOf36 (by decide) rfl) <|
      OblsR.cons (OblR.plain rfl rfl rfl rfl fun A' R' w' ho hd => by have a0 : R' 7 = (.pointer (some ⟨b1_0, 1, none⟩)) := hd 0 _ _ _ rfl rfl rfl rfl rfl; exact (of_load_box (ho.rd 0 _ rfl rfl) a0 fl_laws_Diagram_1 rfl Try.isAgg36 Try.sizeOf36)) <|
      OblsR.cons (OblR.plain rfl rfl rfl rfl fun A' R' w' ho hd => by have a0 : Rep (eSl E_impl_DiagramNode) A' w' (R' 8) p0.2 := hd 0 _ _ _ rfl rfl rfl rfl rfl; exact of_call Try.call72 (M_laws_toDiagramNodeS_okR (q11 rfl) ho.av a0)) <|
      OblsR.cons (OblR.plain rfl rfl rfl rfl fun A' R' w' ho hd => by have a0 : R' 3 = (.pointer (some ⟨b3_4, 0, none⟩)) := (ho.old 3 rfl).trans h3; exact of_fieldAddr_raw a0 ff_43_1 Try.sizeOf41 (by decide) rfl) <|
      OblsR.cons (OblR.took 2 _ _ rfl rfl rfl rfl rfl fun A' R' w' ho hd u hok hav hin hop => by have a0 : R' 10 = (.pointer (some ⟨b3_4, 1, none⟩)) := hd 0 _ _ _ rfl rfl rfl rfl rfl; have a1 : Rep (eSl E_impl_DiagramNode) A' w' (R' 9) x10 := hd 1 _ _ _ rfl rfl rfl rfl rfl; exact took_store a1 a0 (hin _ rfl) hok hav fs_impl_Diagram_1 Try.sizeOf41 rfl) <|
      OblsR.nil
  intro done ρ A R w hdn hI
  replace h2 : R 2 = (.pointer (some ⟨b2_1, 0, none⟩)) := (hI.reg rfl).trans h2
  replace h3 : R 3 = (.pointer (some ⟨b3_4, 0, none⟩)) := (hI.reg rfl).trans h3
  have z12 := hI.inivR 0 rfl
  have z13 := hI.inivR 1 rfl
  have z14 := hI.inivR 2 rfl
  have z15 := (hI.opnR hdn 7 4 rfl rfl rfl rfl rfl).trans z14
  replace hAA := hI.low' hAA hA0 (hO.ge (⟨rfl, ⟨rfl, ⟨rfl, trivial⟩⟩⟩))
  replace hF : Fr w0 w := Below.trans hF (hI.ch.below hF.size (hO.ge (⟨rfl, ⟨rfl, ⟨rfl, trivial⟩⟩⟩)))
  replace hO : IniOK [((.pointer (some ⟨b2_1, 0, none⟩)), .box w0.heap.size 43 E_impl_Diagram ((0 : Int), ([] : List T_impl_DiagramNode))), ((.pointer (some ⟨b3_4, 0, none⟩)), .box w0.heap.size 43 E_impl_Diagram (p0.1, x10))] A w := hI.left hdn [(1, (.pointer (some ⟨b2_1, 0, none⟩)), .box w0.heap.size 43 E_impl_Diagram ((0 : Int), ([] : List T_impl_DiagramNode))), (7, (.pointer (some ⟨b3_4, 0, none⟩)), .box w0.heap.size 43 E_impl_Diagram (p0.1, x10))] ⟨rfl, rfl, z13, rfl, ⟨rfl, rfl, z15, rfl, trivial⟩⟩
  replace hA := hI.avok
  clear hI
  refine HT.seq ?_
  refine HT.textR [((.pointer (some ⟨b2_1, 0, none⟩)), .box w0.heap.size 43 E_impl_Diagram ((0 : Int), ([] : List T_impl_DiagramNode))), ((.pointer (some ⟨b3_4, 0, none⟩)), .box w0.heap.size 43 E_impl_Diagram (p0.1, x10))] (⟨_, true, none, none, true, fun A => .rep E_impl_Diagram A (p0.1, x10)⟩ :: ⟨_, true, some 0, some (.box w0.heap.size 43 E_impl_Diagram (p0.1, x10)), false, fun A => .any⟩ :: []) (by kernel_rfl) (by kernel_rfl) (Wf.mk' (by kernel_rfl) (UAll.cons ust_rep (UAll.cons ust_any (UAll.nil))) (by kernel_rfl) (by kernel_rfl)) hO hA ?_ ?_
  · exact
      OblsR.cons (OblR.plain rfl rfl rfl rfl fun A' R' w' ho hd => by have a0 : R' 3 = (.pointer (some ⟨b3_4, 0, none⟩)) := (ho.old 3 rfl).trans h3; exact (of_load_box (ho.rd 1 _ rfl rfl) a0 (Fld.id _) rfl Try.isAgg43 Try.sizeOf43)) <|
      OblsR.cons (OblR.took 0 _ _ rfl rfl rfl rfl rfl fun A' R' w' ho hd u hok hav hin hop => by have a0 : R' 2 = (.pointer (some ⟨b2_1, 0, none⟩)) := (ho.old 2 rfl).trans h2; have a1 : Rep E_impl_Diagram A' w' (R' 11) (p0.1, x10) := hd 0 _ _ _ rfl rfl rfl rfl rfl; exact took_store a1 a0 (hin _ rfl) hok hav (FldS.id _) Try.sizeOf43 rfl) <|
      OblsR.nil
  intro done ρ A R w hdn hI
  replace h2 : R 2 = (.pointer (some ⟨b2_1, 0, none⟩)) := (hI.reg rfl).trans h2
  have z16 := hI.inivR 0 rfl
  have z17 := (hI.opnR hdn 3 1 rfl rfl rfl rfl rfl).trans z16
  have z18 := hI.inivR 1 rfl
  replace hAA := hI.low' hAA hA0 (hO.ge (⟨rfl, ⟨rfl, trivial⟩⟩))
  replace hF : Fr w0 w := Below.trans hF (hI.ch.below hF.size (hO.ge (⟨rfl, ⟨rfl, trivial⟩⟩)))
  replace hO : IniOK [((.pointer (some ⟨b2_1, 0, none⟩)), .box w0.heap.size 43 E_impl_Diagram (p0.1, x10))] A w := hI.left hdn [(3, (.pointer (some ⟨b2_1, 0, none⟩)), .box w0.heap.size 43 E_impl_Diagram (p0.1, x10))] ⟨rfl, rfl, z17, rfl, trivial⟩
  replace hA := hI.avok
  clear hI
  refine HT.ret ?_
  obtain rfl := Option.some.inj hr
  obtain ⟨v_2, e_2, p_2⟩ := res_cell (hO.ok 0 _ rfl).1 h2 Try.isAgg43 Try.sizeOf43 hAA
  exact ⟨.inr rfl, [v_2], ⟨e_2, trivial⟩, p_2, hF⟩
def M_spec_l1In (fu : Nat) (p0 : Int) (p1 : Int) (p2 : Int) : Option Bool :=
  bd ((decide (p1 ≤ p0)) && (decide (p0 ≤ p2))) fun x1 =>
  some x1
set_option maxRecDepth 100000 in
set_option maxHeartbeats 4000000 in
theorem M_spec_l1In_ok {fu : Nat} {A : Av} {p0 : Int} {p1 : Int} {p2 : Int} {r : Bool} (hr : M_spec_l1In fu p0 p1 p2 = some r) {w : World} {v0 : Value} {v1 : Value} {v2 : Value} (hA : AvOK A w) (h0 : v0 = .int .i64 p0) (h1 : v1 = .int .i64 p1) (h2 : v2 = .int .i64 p2) :
    Calls Try.prog 70 #[v0, v1, v2] w fun e w' => ∃ v, e = .returned v ∧ (v = .bool r ∧ Fr w w') := by
  unfold M_spec_l1In at hr
  obtain ⟨w0, hw0⟩ : ∃ w0, w0 = w := ⟨_, rfl⟩
  have hF : Fr w0 w := hw0 ▸ Fr.refl _
  rw [show Fr w = Fr w0 from hw0 ▸ rfl]
  clear hw0
  refine calls_of_HT2 [.tmp 6] Try.func70 Try.ntmps70 (by decide) rfl rfl (Nat.le_of_ble_eq_true rfl) ?_
  intro R hR
  replace h0 : R 0 = .int .i64 p0 := (hR 0 _ rfl).trans h0
  replace h1 : R 1 = .int .i64 p1 := (hR 1 _ rfl).trans h1
  replace h2 : R 2 = .int .i64 p2 := (hR 2 _ rfl).trans h2
  clear hR
  refine HT.seq ?_
  refine HT.text (l := ⟨_, true, .raw (.bool false)⟩ :: []) (tl := []) (by kernel_rfl) (by kernel_rfl) (by kernel_rfl) ?_ ?_
  · exact
      Obls.cons (Obl.plain rfl rfl fun R' w' hw hs hd => by exact of_assign rfl) <|
      Obls.nil
  intro R w hw hs hF'
  replace h0 : R 0 = .int .i64 p0 := (hs 0 rfl).trans h0
  replace h1 : R 1 = .int .i64 p1 := (hs 1 rfl).trans h1
  replace h2 : R 2 = .int .i64 p2 := (hs 2 rfl).trans h2
  replace hA := hA.fr hw.size
  replace hF := hF.trans hw
  clear hs hF' hw
  refine seqR_nil ?_
  refine HT.seq ?_
  obtain ⟨x1, q2, hr⟩ := bd_some hr
  refine HT.text (l := ⟨_, true, .raw (.int .i64 p0)⟩ :: ⟨_, true, .raw (.int .i64 p1)⟩ :: ⟨_, true, .raw (.bool (decide (p1 ≤ p0)))⟩ :: ⟨_, true, .raw (.bool (decide (p1 ≤ p0)))⟩ :: ⟨_, (true && ((decide (p1 ≤ p0)) == true)), .raw (.int .i64 p0)⟩ :: ⟨_, (true && ((decide (p1 ≤ p0)) == true)), .raw (.int .i64 p2)⟩ :: ⟨_, (true && ((decide (p1 ≤ p0)) == true)), .raw (.bool (decide (p0 ≤ p2)))⟩ :: ⟨_, true, .raw (.bool x1)⟩ :: ⟨_, true, .raw (.bool x1)⟩ :: []) (tl := []) (by kernel_rfl) (by kernel_rfl) (by kernel_rfl) ?_ ?_
  · exact
      Obls.cons (Obl.plain rfl rfl fun R' w' hw hs hd => by have a0 : R' 0 = .int .i64 p0 := (hs 0 rfl).trans h0; exact of_move a0) <|
      Obls.cons (Obl.plain rfl rfl fun R' w' hw hs hd => by have a0 : R' 1 = .int .i64 p1 := (hs 1 rfl).trans h1; exact of_move a0) <|
      Obls.cons (Obl.plain rfl rfl fun R' w' hw hs hd => by have a0 : R' 7 = .int .i64 p0 := hd 0 _ _ _ rfl rfl rfl rfl rfl; have a1 : R' 8 = .int .i64 p1 := hd 1 _ _ _ rfl rfl rfl rfl rfl; exact of_geq a0 a1) <|
      Obls.cons (Obl.plain rfl rfl fun R' w' hw hs hd => by have a0 : R' 9 = .bool (decide (p1 ≤ p0)) := hd 0 _ _ _ rfl rfl rfl rfl rfl; exact of_move a0) <|
      Obls.cons (Obl.grd 3 true _ _ _ rfl rfl rfl rfl rfl (by kernel_rfl) fun hg R' w' hw hs hd => by have a0 : R' 0 = .int .i64 p0 := (hs 0 rfl).trans h0; exact of_move a0) <|
      Obls.cons (Obl.grd 3 true _ _ _ rfl rfl rfl rfl rfl (by kernel_rfl) fun hg R' w' hw hs hd => by have a0 : R' 2 = .int .i64 p2 := (hs 2 rfl).trans h2; exact of_move a0) <|
      Obls.cons (Obl.grd 3 true _ _ _ rfl rfl rfl rfl rfl (by kernel_rfl) fun hg R' w' hw hs hd => by have a0 : R' 11 = .int .i64 p0 := hd 0 _ _ _ rfl rfl rfl rfl hg; have a1 : R' 12 = .int .i64 p2 := hd 1 _ _ _ rfl rfl rfl rfl hg; exact of_leq a0 a1) <|
      Obls.cons (Obl.plain rfl rfl fun R' w' hw hs hd => by have a0 : R' 10 = .bool (decide (p1 ≤ p0)) := hd 0 _ _ _ rfl rfl rfl rfl rfl; exact of_pick (decide (p1 ≤ p0)) a0 (fun hc => by have a1 : R' 13 = .bool (decide (p0 ≤ p2)) := hd 1 _ _ _ rfl rfl rfl rfl (g_and rfl (beq_of hc)); show _ = Value.bool x1; rw [q2, hc]; exact a1) (fun hc => by show _ = Value.bool x1; rw [q2, hc]; exact rfl)) <|
      Obls.cons (Obl.plain rfl rfl fun R' w' hw hs hd => by have a0 : R' 14 = .bool x1 := hd 0 _ _ _ rfl rfl rfl rfl rfl; exact of_assign a0) <|
      Obls.nil
  intro R w hw hs hF'
  have h6 : R 6 = .bool x1 := hF' 8 _ _ rfl rfl rfl
  replace hA := hA.fr hw.size
  replace hF := hF.trans hw
  clear hs hF' hw
  refine seqR_nil ?_
  refine HT.ret ?_
  obtain rfl := Option.some.inj hr
  exact ⟨.inr rfl, [R 6], ⟨rfl, trivial⟩, h6, hF⟩
def M_spec_l15Before (fu : Nat) (p0 : T_impl_DiagramNode) (p1 : T_impl_DiagramNode) : Option Bool :=
  bd ((p0.1 == p1.1) && (decide (p0.2.1 < p1.2.1))) fun x3 =>
  bd ((decide (p0.1 < p1.1)) || x3) fun x5 =>
  some x5
set_option maxRecDepth 100000 in
set_option maxHeartbeats 4000000 in
theorem M_spec_l15Before_ok {fu : Nat} {A0 : Av} {p0 : T_impl_DiagramNode} {p1 : T_impl_DiagramNode} {r : Bool} (hr : M_spec_l15Before fu p0 p1 = some r) {w : World} {v0 : Value} {v1 : Value} (hA : AvOK A0 w) (h0 : Rep E_impl_DiagramNode A0 w v0 p0) (h1 : Rep E_impl_DiagramNode A0 w v1 p1) :
    Calls Try.prog 71 #[v0, v1] w fun e w' => ∃ v, e = .returned v ∧ (v = .bool r ∧ Fr w w') := by
  unfold M_spec_l15Before at hr
  obtain ⟨w0, hw0⟩ : ∃ w0, w0 = w := ⟨_, rfl⟩
  have hF : Fr w0 w := hw0 ▸ Fr.refl _
  have hA0 : ∀ b o, A0 b o → b < w0.heap.size := fun b o h => hw0 ▸ hA b o h
  have hA00 : AvOK A0 w0 := hA0
  rw [show Fr w = Fr w0 from hw0 ▸ rfl]
  clear hw0
  obtain ⟨A, hAe⟩ : ∃ A, A = A0 := ⟨_, rfl⟩
  have hAA : ∀ b o, A0 b o → A b o := fun b o h => hAe ▸ h
  replace hA : AvOK A w := hAe ▸ hA
  have hO : IniOK [] A w := IniOK.nil
  refine calls_of_HT2 [.tmp 4] Try.func71 Try.ntmps71 (by decide) rfl rfl (Nat.le_of_ble_eq_true rfl) ?_
  intro R hR
  have f_v0 : Rep E_impl_DiagramNode A w v0 p0 := hAe ▸ h0
  replace h0 : R 0 = v0 := hR 0 _ rfl
  have f_v1 : Rep E_impl_DiagramNode A w v1 p1 := hAe ▸ h1
  replace h1 : R 1 = v1 := hR 1 _ rfl
  clear hR hAe
  refine HT.seq ?_
  refine HT.textR [] (⟨_, true, none, some (.box w0.heap.size 92 E_impl_DiagramNode p0), true, fun A => .any⟩ :: ⟨_, true, none, some (.box w0.heap.size 92 E_impl_DiagramNode p1), true, fun A => .any⟩ :: ⟨_, true, none, none, true, fun A => .raw (.bool false)⟩ :: []) (by kernel_rfl) (by kernel_rfl) (Wf.mk' (by kernel_rfl) (UAll.cons ust_any (UAll.cons ust_any (UAll.cons ust_raw (UAll.nil)))) (by kernel_rfl) (by kernel_rfl)) hO hA ?_ ?_
  · exact
      OblsR.cons (OblR.made _ rfl rfl rfl rfl fun A' R' w' ho hd => by have a0 : R' 0 = v0 := (ho.old 0 rfl).trans h0; have ra0 := (f_v0.stp ho.stp).eq a0; exact made_box ra0 (Nat.le_trans hF.size ho.ch.size)) <|
      OblsR.cons (OblR.made _ rfl rfl rfl rfl fun A' R' w' ho hd => by have a0 : R' 1 = v1 := (ho.old 1 rfl).trans h1; have ra0 := (f_v1.stp ho.stp).eq a0; exact made_box ra0 (Nat.le_trans hF.size ho.ch.size)) <|
      OblsR.cons (OblR.plain rfl rfl rfl rfl fun A' R' w' ho hd => by exact of_assign rfl) <|
      OblsR.nil
  intro done ρ A R w hdn hI
  obtain ⟨b2_0, e_b2_0⟩ := hI.boxv hdn 0 rfl rfl
  have h2 : R 2 = (.pointer (some ⟨b2_0, 0, none⟩)) := (hI.opvR hdn 0 0 rfl rfl rfl rfl rfl).symm.trans e_b2_0
  obtain ⟨b3_1, e_b3_1⟩ := hI.boxv hdn 1 rfl rfl
  have h3 : R 3 = (.pointer (some ⟨b3_1, 0, none⟩)) := (hI.opvR hdn 1 1 rfl rfl rfl rfl rfl).symm.trans e_b3_1
  replace hAA := hI.low' hAA hA0 (hO.ge (trivial))
  replace hF : Fr w0 w := Below.trans hF (hI.ch.below hF.size (hO.ge (trivial)))
  replace hO : IniOK [((.pointer (some ⟨b2_0, 0, none⟩)), .box w0.heap.size 92 E_impl_DiagramNode p0), ((.pointer (some ⟨b3_1, 0, none⟩)), .box w0.heap.size 92 E_impl_DiagramNode p1)] A w := hI.left hdn [(0, (.pointer (some ⟨b2_0, 0, none⟩)), .box w0.heap.size 92 E_impl_DiagramNode p0), (1, (.pointer (some ⟨b3_1, 0, none⟩)), .box w0.heap.size 92 E_impl_DiagramNode p1)] ⟨rfl, rfl, e_b2_0, rfl, ⟨rfl, rfl, e_b3_1, rfl, trivial⟩⟩
  replace hA := hI.avok
  clear hI
  refine HT.seq ?_
  obtain ⟨x3, q4, hr⟩ := bd_some hr
  obtain ⟨x5, q6, hr⟩ := bd_some hr
  refine HT.text (l := ⟨_, true, .raw (.pointer (some ⟨b2_0, 0, none⟩))⟩ :: ⟨_, true, .raw (.int .i64 p0.1)⟩ :: ⟨_, true, .raw (.pointer (some ⟨b3_1, 0, none⟩))⟩ :: ⟨_, true, .raw (.int .i64 p1.1)⟩ :: ⟨_, true, .raw (.bool (decide (p0.1 < p1.1)))⟩ :: ⟨_, true, .raw (.bool (decide (p0.1 < p1.1)))⟩ :: ⟨_, (true && ((decide (p0.1 < p1.1)) == false)), .raw (.pointer (some ⟨b2_0, 0, none⟩))⟩ :: ⟨_, (true && ((decide (p0.1 < p1.1)) == false)), .raw (.int .i64 p0.1)⟩ :: ⟨_, (true && ((decide (p0.1 < p1.1)) == false)), .raw (.pointer (some ⟨b3_1, 0, none⟩))⟩ :: ⟨_, (true && ((decide (p0.1 < p1.1)) == false)), .raw (.int .i64 p1.1)⟩ :: ⟨_, (true && ((decide (p0.1 < p1.1)) == false)), .raw (.bool (p0.1 == p1.1))⟩ :: ⟨_, (true && ((decide (p0.1 < p1.1)) == false)), .raw (.bool (p0.1 == p1.1))⟩ :: ⟨_, ((true && ((decide (p0.1 < p1.1)) == false)) && ((p0.1 == p1.1) == true)), .raw (.pointer (some ⟨b2_0, 1, none⟩))⟩ :: ⟨_, ((true && ((decide (p0.1 < p1.1)) == false)) && ((p0.1 == p1.1) == true)), .raw (.int .i64 p0.2.1)⟩ :: ⟨_, ((true && ((decide (p0.1 < p1.1)) == false)) && ((p0.1 == p1.1) == true)), .raw (.pointer (some ⟨b3_1, 1, none⟩))⟩ :: ⟨_, ((true && ((decide (p0.1 < p1.1)) == false)) && ((p0.1 == p1.1) == true)), .raw (.int .i64 p1.2.1)⟩ :: ⟨_, ((true && ((decide (p0.1 < p1.1)) == false)) && ((p0.1 == p1.1) == true)), .raw (.bool (decide (p0.2.1 < p1.2.1)))⟩ :: ⟨_, (true && ((decide (p0.1 < p1.1)) == false)), .raw (.bool x3)⟩ :: ⟨_, true, .raw (.bool x5)⟩ :: ⟨_, true, .raw (.bool x5)⟩ :: []) (tl := []) (by kernel_rfl) (by kernel_rfl) (by kernel_rfl) ?_ ?_
  · exact
      Obls.cons (Obl.plain rfl rfl fun R' w' hw hs hd => by have a0 : R' 2 = (.pointer (some ⟨b2_0, 0, none⟩)) := (hs 2 rfl).trans h2; exact of_fieldAddr_raw a0 ff_92_0 Try.sizeOf3 (by decide) rfl) <|
      Obls.cons (Obl.plain rfl rfl fun R' w' hw hs hd => by have a0 : R' 5 = (.pointer (some ⟨b2_0, 0, none⟩)) := hd 0 _ _ _ rfl rfl rfl rfl rfl; exact OpF.int (of_load_box ((hO.fr hw).ok 0 _ rfl).1 a0 fl_impl_DiagramNode_0 rfl Try.isAgg3 Try.sizeOf3)) <|
      Obls.cons (Obl.plain rfl rfl fun R' w' hw hs hd => by have a0 : R' 3 = (.pointer (some ⟨b3_1, 0, none⟩)) := (hs 3 rfl).trans h3; exact of_fieldAddr_raw a0 ff_92_0 Try.sizeOf3 (by decide) rfl) <|
      Obls.cons (Obl.plain rfl rfl fun R' w' hw hs hd => by have a0 : R' 7 = (.pointer (some ⟨b3_1, 0, none⟩)) := hd 0 _ _ _ rfl rfl rfl rfl rfl; exact OpF.int (of_load_box ((hO.fr hw).ok 1 _ rfl).1 a0 fl_impl_DiagramNode_0 rfl Try.isAgg3 Try.sizeOf3)) <|
      Obls.cons (Obl.plain rfl rfl fun R' w' hw hs hd => by have a0 : R' 6 = .int .i64 p0.1 := hd 0 _ _ _ rfl rfl rfl rfl rfl; have a1 : R' 8 = .int .i64 p1.1 := hd 1 _ _ _ rfl rfl rfl rfl rfl; exact of_lss a0 a1) <|
      Obls.cons (Obl.plain rfl rfl fun R' w' hw hs hd => by have a0 : R' 9 = .bool (decide (p0.1 < p1.1)) := hd 0 _ _ _ rfl rfl rfl rfl rfl; exact of_move a0) <|
      Obls.cons (Obl.grd 5 false _ _ _ rfl rfl rfl rfl rfl (by kernel_rfl) fun hg R' w' hw hs hd => by have a0 : R' 2 = (.pointer (some ⟨b2_0, 0, none⟩)) := (hs 2 rfl).trans h2; exact of_fieldAddr_raw a0 ff_92_0 Try.sizeOf3 (by decide) rfl) <|
      Obls.cons (Obl.grd 5 false _ _ _ rfl rfl rfl rfl rfl (by kernel_rfl) fun hg R' w' hw hs hd => by have a0 : R' 11 = (.pointer (some ⟨b2_0, 0, none⟩)) := hd 0 _ _ _ rfl rfl rfl rfl hg; exact OpF.int (of_load_box ((hO.fr hw).ok 0 _ rfl).1 a0 fl_impl_DiagramNode_0 rfl Try.isAgg3 Try.sizeOf3)) <|
      Obls.cons (Obl.grd 5 false _ _ _ rfl rfl rfl rfl rfl (by kernel_rfl) fun hg R' w' hw hs hd => by have a0 : R' 3 = (.pointer (some ⟨b3_1, 0, none⟩)) := (hs 3 rfl).trans h3; exact of_fieldAddr_raw a0 ff_92_0 Try.sizeOf3 (by decide) rfl) <|
      Obls.cons (Obl.grd 5 false _ _ _ rfl rfl rfl rfl rfl (by kernel_rfl) fun hg R' w' hw hs hd => by have a0 : R' 13 = (.pointer (some ⟨b3_1, 0, none⟩)) := hd 0 _ _ _ rfl rfl rfl rfl hg; exact OpF.int (of_load_box ((hO.fr hw).ok 1 _ rfl).1 a0 fl_impl_DiagramNode_0 rfl Try.isAgg3 Try.sizeOf3)) <|
      Obls.cons (Obl.grd 5 false _ _ _ rfl rfl rfl rfl rfl (by kernel_rfl) fun hg R' w' hw hs hd => by have a0 : R' 12 = .int .i64 p0.1 := hd 0 _ _ _ rfl rfl rfl rfl hg; have a1 : R' 14 = .int .i64 p1.1 := hd 1 _ _ _ rfl rfl rfl rfl hg; exact of_eql a0 a1) <|
      Obls.cons (Obl.grd 5 false _ _ _ rfl rfl rfl rfl rfl (by kernel_rfl) fun hg R' w' hw hs hd => by have a0 : R' 15 = .bool (p0.1 == p1.1) := hd 0 _ _ _ rfl rfl rfl rfl hg; exact of_move a0) <|
      Obls.cons (Obl.grd 11 true _ _ _ rfl rfl rfl rfl rfl (by kernel_rfl) fun hg R' w' hw hs hd => by have a0 : R' 2 = (.pointer (some ⟨b2_0, 0, none⟩)) := (hs 2 rfl).trans h2; exact of_fieldAddr_raw a0 ff_92_1 Try.sizeOf3 (by decide) rfl) <|
      Obls.cons (Obl.grd 11 true _ _ _ rfl rfl rfl rfl rfl (by kernel_rfl) fun hg R' w' hw hs hd => by have a0 : R' 17 = (.pointer (some ⟨b2_0, 1, none⟩)) := hd 0 _ _ _ rfl rfl rfl rfl hg; exact OpF.int (of_load_box ((hO.fr hw).ok 0 _ rfl).1 a0 fl_impl_DiagramNode_1 rfl Try.isAgg3 Try.sizeOf3)) <|
      Obls.cons (Obl.grd 11 true _ _ _ rfl rfl rfl rfl rfl (by kernel_rfl) fun hg R' w' hw hs hd => by have a0 : R' 3 = (.pointer (some ⟨b3_1, 0, none⟩)) := (hs 3 rfl).trans h3; exact of_fieldAddr_raw a0 ff_92_1 Try.sizeOf3 (by decide) rfl) <|
      Obls.cons (Obl.grd 11 true _ _ _ rfl rfl rfl rfl rfl (by kernel_rfl) fun hg R' w' hw hs hd => by have a0 : R' 19 = (.pointer (some ⟨b3_1, 1, none⟩)) := hd 0 _ _ _ rfl rfl rfl rfl hg; exact OpF.int (of_load_box ((hO.fr hw).ok 1 _ rfl).1 a0 fl_impl_DiagramNode_1 rfl Try.isAgg3 Try.sizeOf3)) <|
      Obls.cons (Obl.grd 11 true _ _ _ rfl rfl rfl rfl rfl (by kernel_rfl) fun hg R' w' hw hs hd => by have a0 : R' 18 = .int .i64 p0.2.1 := hd 0 _ _ _ rfl rfl rfl rfl hg; have a1 : R' 20 = .int .i64 p1.2.1 := hd 1 _ _ _ rfl rfl rfl rfl hg; exact of_lss a0 a1) <|
      Obls.cons (Obl.grd 5 false _ _ _ rfl rfl rfl rfl rfl (by kernel_rfl) fun hg R' w' hw hs hd => by have a0 : R' 16 = .bool (p0.1 == p1.1) := hd 0 _ _ _ rfl rfl rfl rfl hg; exact of_pick (p0.1 == p1.1) a0 (fun hc => by have a1 : R' 21 = .bool (decide (p0.2.1 < p1.2.1)) := hd 1 _ _ _ rfl rfl rfl rfl (g_and hg (beq_of hc)); show _ = Value.bool x3; rw [q4, hc]; exact a1) (fun hc => by show _ = Value.bool x3; rw [q4, hc]; exact rfl)) <|
      Obls.cons (Obl.plain rfl rfl fun R' w' hw hs hd => by have a0 : R' 10 = .bool (decide (p0.1 < p1.1)) := hd 0 _ _ _ rfl rfl rfl rfl rfl; exact of_pick (decide (p0.1 < p1.1)) a0 (fun hc => by show _ = Value.bool x5; rw [q6, hc]; exact rfl) (fun hc => by have a2 : R' 22 = .bool x3 := hd 1 _ _ _ rfl rfl rfl rfl (g_and rfl (beq_of hc)); show _ = Value.bool x5; rw [q6, hc]; exact a2)) <|
      Obls.cons (Obl.plain rfl rfl fun R' w' hw hs hd => by have a0 : R' 23 = .bool x5 := hd 0 _ _ _ rfl rfl rfl rfl rfl; exact of_assign a0) <|
      Obls.nil
  intro R w hw hs hF'
  have h4 : R 4 = .bool x5 := hF' 19 _ _ rfl rfl rfl
  replace hO := hO.fr hw
  replace hO : IniOK [] A w := hO.sub [] trivial
  replace hA := hA.fr hw.size
  replace hF := hF.trans hw
  clear hs hF' hw
  refine seqR_nil ?_
  refine HT.ret ?_
  obtain rfl := Option.some.inj hr
  exact ⟨.inr rfl, [R 4], ⟨rfl, trivial⟩, h4, hF⟩
end Go.Proofs.Ytjfhlhhobpdneaa
