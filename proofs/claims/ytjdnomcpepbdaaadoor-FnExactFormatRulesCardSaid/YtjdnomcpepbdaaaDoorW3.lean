/- Printed by dec.py: plain functions and the proofs that the code computes them. No statement of the seat is proved here. -/
import Derived.Test.YtjdnomcpepbdaaaDoorW2
namespace Go.Proofs.YtjdnomcpepbdaaaDoor
open Go.RowKit
set_option linter.unusedVariables false
set_option maxRecDepth 100000
set_option maxHeartbeats 4000000
def M_laws_eqTestS_L0 (fu : Nat) (p0 : List T_impl_Test) (p1 : List T_impl_Test) : Nat → Int → Option (Ex Bool Unit)
 | 0, _ => none
 | k + 1, y5 =>
  bif (decide (y5 < (p0.length : Int))) then (
   ck (inR y5 p0.length) <|
   ck (inR y5 p1.length) <|
   cl true (M_laws_eqTest fu (gtD p0 y5) (gtD p1 y5)) fun x9 =>
   bif (!x9) then (
    some (Ex.ret false)
   ) else (
    ck (i64B (y5 + (1 : Int))) <|
    M_laws_eqTestS_L0 fu p0 p1 k (y5 + (1 : Int))
   )
  ) else (
   some (Ex.go ())
  )
def M_laws_eqTestS (fu : Nat) (p0 : List T_impl_Test) (p1 : List T_impl_Test) : Option Bool :=
 bif ((p0.length : Int) != (p1.length : Int)) then (
  some false
 ) else (
  cl true (M_laws_eqTestS_L0 fu p0 p1 fu (0 : Int)) fun rl2 =>
  exM rl2 (fun r => some r) fun s4 =>
  some true
 )
theorem M_laws_eqTestS_ok {fu : Nat} {A : Av} {p0 : List T_impl_Test} {p1 : List T_impl_Test} {r : Bool} (hr : M_laws_eqTestS fu p0 p1 = some r) {w : World} {v0 : Value} {v1 : Value} (hA : AvOK A w) (h0 : Rep (eSl E_impl_Test) A w v0 p0) (h1 : Rep (eSl E_impl_Test) A w v1 p1) :
  Calls Tryd.prog 87 #[v0, v1] w fun e w' => ∃ v, e = .returned v ∧ (v = .bool r ∧ Fr w w') := by
 unfold M_laws_eqTestS at hr
 obtain ⟨w0, hw0⟩ : ∃ w0, w0 = w := ⟨_, rfl⟩
 have hF : Fr w0 w := hw0 ▸ Fr.refl _
 rw [show Fr w = Fr w0 from hw0 ▸ rfl]
 clear hw0
 refine calls_of_HT2 [.tmp 4] Tryd.func87 Tryd.ntmps87 (by decide) rfl rfl (Nat.le_of_ble_eq_true rfl) ?_
 intro R hR
 have f_v0 := h0
 replace h0 : R 0 = v0 := hR 0 _ rfl
 have f_v1 := h1
 replace h1 : R 1 = v1 := hR 1 _ rfl
 clear hR
 refine HT.seq ?_
 refine HT.text (l := ⟨_, true, .raw (.bool false)⟩ :: []) (tl := []) (by kernel_rfl) (by kernel_rfl) (by kernel_rfl) ?_ ?_
 ·exact
   Obls.p (fun R' w' hw hs hd => of_assign rfl) <|
   Obls.nil
 intro R w hw hs hF'
 replace h0 := (hs 0 rfl).trans h0
 replace h1 := (hs 1 rfl).trans h1
 replace f_v0 := f_v0.fr hw
 replace f_v1 := f_v1.fr hw
 replace hA := hA.fr hw.size
 replace hF := hF.trans hw
 clear hs hF' hw
 refine seqR_nil ?_
 refine HT.seq ?_
 refine HT.seq ?_
 refine HT.text (l := ⟨_, true, .raw v0⟩ :: ⟨_, true, .raw (.int .i64 (p0.length : Int))⟩ :: ⟨_, true, .raw v1⟩ :: ⟨_, true, .raw (.int .i64 (p1.length : Int))⟩ :: ⟨_, true, .raw (.bool ((p0.length : Int) != (p1.length : Int)))⟩ :: []) (tl := []) (by kernel_rfl) (by kernel_rfl) (by kernel_rfl) ?_ ?_
 ·exact
   Obls.p (fun R' w' hw hs hd => of_move ((hs 0 rfl).trans h0)) <|
   Obls.p (fun R' w' hw hs hd => by have a0 : R' 6 = v0 := hd.g 0 rfl; have ra0 := (f_v0.fr hw).eq a0; exact of_len_sl (aT := #[]) ra0 Tryd.underlying71) <|
   Obls.p (fun R' w' hw hs hd => of_move ((hs 1 rfl).trans h1)) <|
   Obls.p (fun R' w' hw hs hd => by have a0 : R' 8 = v1 := hd.g 0 rfl; have ra0 := (f_v1.fr hw).eq a0; exact of_len_sl (aT := #[]) ra0 Tryd.underlying71) <|
   Obls.p (fun R' w' hw hs hd => by have a0 : R' 7 = .int .i64 (p0.length : Int) := hd.g 0 rfl; have a1 : R' 9 = .int .i64 (p1.length : Int) := hd.g 1 rfl; exact of_neq a0 a1) <|
   Obls.nil
 intro R w hw hs hF'
 replace h0 := (hs 0 rfl).trans h0
 replace h1 := (hs 1 rfl).trans h1
 have h10 : R 10 = .bool ((p0.length : Int) != (p1.length : Int)) := hF' 4 _ _ rfl rfl rfl
 replace f_v0 := f_v0.fr hw
 replace f_v1 := f_v1.fr hw
 replace hA := hA.fr hw.size
 replace hF := hF.trans hw
 clear hs hF' hw
 refine seqR_nil ?_
 refine HT.cond ((p0.length : Int) != (p1.length : Int)) h10 (fun c1 => ?_) (fun c1 => ?_)
 ·have hr := cnd_t c1 hr
  refine HT.seq ?_
  refine HT.text (l := ⟨_, true, .raw (.bool false)⟩ :: []) (tl := []) (by kernel_rfl) (by kernel_rfl) (by kernel_rfl) ?_ ?_
  ·exact
    Obls.p (fun R' w' hw hs hd => of_assign rfl) <|
    Obls.nil
  intro R w hw hs hF'
  have h4 : R 4 = .bool false := hF' 0 _ _ rfl rfl rfl
  replace hA := hA.fr hw.size
  replace hF := hF.trans hw
  clear hs hF' hw
  refine seqR_nil ?_
  refine HT.ret ?_
  obtain rfl := Option.some.inj hr
  exact ⟨.inr rfl, [R 4], ⟨rfl, trivial⟩, h4, hF⟩
 ·have hr := cnd_f c1 hr
  refine HT.skip ?_
  refine HT.seq ?_
  refine HT.seq ?_
  refine HT.text (l := ⟨_, true, .raw (.int .i64 (0 : Int))⟩ :: []) (tl := []) (by kernel_rfl) (by kernel_rfl) (by kernel_rfl) ?_ ?_
  ·exact
    Obls.p (fun R' w' hw hs hd => of_assign rfl) <|
    Obls.nil
  intro R w hw hs hF'
  replace h0 := (hs 0 rfl).trans h0
  replace h1 := (hs 1 rfl).trans h1
  have h5 : R 5 = .int .i64 (0 : Int) := hF' 0 _ _ rfl rfl rfl
  replace f_v0 := f_v0.fr hw
  replace f_v1 := f_v1.fr hw
  replace hA := hA.fr hw.size
  replace hF := hF.trans hw
  clear hs hF' hw
  refine seqR_nil ?_
  obtain ⟨rl2, q3, hr⟩ := cl_some hr
  replace q3 := q3 rfl
  refine HT.cut0 (fun R w => ∃ (s4 : Unit), rl2 = Ex.go s4 ∧ AvOK A w ∧ Fr w0 w) ?_ ?_
  ·refine HT.block ?_
   refine HT.loop (fun k R w => ∃ (y5 : Int), M_laws_eqTestS_L0 fu p0 p1 k y5 = some rl2 ∧ AvOK A w ∧ Fr w0 w ∧ R 0 = v0 ∧ R 1 = v1 ∧ R 5 = .int .i64 y5 ∧ Rep (eSl E_impl_Test) A w v0 p0 ∧ Rep (eSl E_impl_Test) A w v1 p1) fu ⟨_, q3, hA, hF, h0, h1, h5, f_v0, f_v1⟩ ?_
   have hr0 := hr; clear hr q3
   rintro k R w ⟨y5, hr, hA, hF, h0, h1, h5, f_v0, f_v1⟩
   rcases k with _ | k
   ·cases (show none = some _ from hr)
   rw [M_laws_eqTestS_L0] at hr
   refine HT.seq ?_
   refine HT.seq ?_
   refine HT.text (l := ⟨_, true, .raw (.int .i64 y5)⟩ :: ⟨_, true, .raw v0⟩ :: ⟨_, true, .raw (.int .i64 (p0.length : Int))⟩ :: ⟨_, true, .raw (.bool (decide (y5 < (p0.length : Int))))⟩ :: []) (tl := []) (by kernel_rfl) (by kernel_rfl) (by kernel_rfl) ?_ ?_
   ·exact
     Obls.p (fun R' w' hw hs hd => of_move ((hs 5 rfl).trans h5)) <|
     Obls.p (fun R' w' hw hs hd => of_move ((hs 0 rfl).trans h0)) <|
     Obls.p (fun R' w' hw hs hd => by have a0 : R' 12 = v0 := hd.g 0 rfl; have ra0 := (f_v0.fr hw).eq a0; exact of_len_sl (aT := #[]) ra0 Tryd.underlying71) <|
     Obls.p (fun R' w' hw hs hd => by have a0 : R' 11 = .int .i64 y5 := hd.g 0 rfl; have a1 : R' 13 = .int .i64 (p0.length : Int) := hd.g 1 rfl; exact of_lss a0 a1) <|
     Obls.nil
   intro R w hw hs hF'
   replace h0 := (hs 0 rfl).trans h0
   replace h1 := (hs 1 rfl).trans h1
   replace h5 := (hs 5 rfl).trans h5
   have h14 : R 14 = .bool (decide (y5 < (p0.length : Int))) := hF' 3 _ _ rfl rfl rfl
   replace f_v0 := f_v0.fr hw
   replace f_v1 := f_v1.fr hw
   replace hA := hA.fr hw.size
   replace hF := hF.trans hw
   clear hs hF' hw
   refine seqR_nil ?_
   refine HT.cond (decide (y5 < (p0.length : Int))) h14 (fun c6 => ?_) (fun c6 => ?_)
   ·have hr := cnd_t c6 hr
    refine HT.skip ?_
    refine HT.seq ?_
    refine HT.block ?_
    refine HT.seq ?_
    obtain ⟨e7, hr⟩ := ck_some hr
    obtain ⟨e8, hr⟩ := ck_some hr
    obtain ⟨x9, q10, hr⟩ := cl_some hr
    refine HT.draw (by kernel_rfl) (l := ⟨_, true, .raw v0⟩ :: ⟨_, true, .raw (.int .i64 y5)⟩ :: ⟨_, true, .qtr E_impl_Test A (gtD p0 y5)⟩ :: ⟨_, true, .rep E_impl_Test A (gtD p0 y5)⟩ :: ⟨_, true, .raw v1⟩ :: ⟨_, true, .raw (.int .i64 y5)⟩ :: ⟨_, true, .qtr E_impl_Test A (gtD p1 y5)⟩ :: ⟨_, true, .rep E_impl_Test A (gtD p1 y5)⟩ :: ⟨_, true, .raw (.bool x9)⟩ :: ⟨_, true, .raw (.bool (!x9))⟩ :: []) (tl := []) (by kernel_rfl) (by kernel_rfl) (by kernel_rfl) (by kernel_rfl) ?_ ?_
    ·exact
      Obls.p (fun R' w' hw hs hd => of_move ((hs 0 rfl).trans h0)) <|
      Obls.p (fun R' w' hw hs hd => of_move ((hs 5 rfl).trans h5)) <|
      Obls.p (fun R' w' hw hs hd => by have a0 : R' 17 = v0 := hd.g 0 rfl; have a1 : R' 18 = .int .i64 y5 := hd.g 1 rfl; have ra0 := (f_v0.fr hw).eq a0; exact of_indexAddr ra0 a1 Tryd.underlying71 Tryd.sizeOf67 e7) <|
      Obls.p (fun R' w' hw hs hd => by have a0 : QRep E_impl_Test A w' (R' 19) (gtD p0 y5) := hd.g 0 rfl; exact (of_load a0.ptr Tryd.isAgg67 Tryd.sizeOf67)) <|
      Obls.p (fun R' w' hw hs hd => of_move ((hs 1 rfl).trans h1)) <|
      Obls.p (fun R' w' hw hs hd => of_move ((hs 5 rfl).trans h5)) <|
      Obls.p (fun R' w' hw hs hd => by have a0 : R' 21 = v1 := hd.g 0 rfl; have a1 : R' 22 = .int .i64 y5 := hd.g 1 rfl; have ra0 := (f_v1.fr hw).eq a0; exact of_indexAddr ra0 a1 Tryd.underlying71 Tryd.sizeOf67 e8) <|
      Obls.p (fun R' w' hw hs hd => by have a0 : QRep E_impl_Test A w' (R' 23) (gtD p1 y5) := hd.g 0 rfl; exact (of_load a0.ptr Tryd.isAgg67 Tryd.sizeOf67)) <|
      Obls.p (fun R' w' hw hs hd => by have a0 : Rep E_impl_Test A w' (R' 20) (gtD p0 y5) := hd.g 0 rfl; have a1 : Rep E_impl_Test A w' (R' 24) (gtD p1 y5) := hd.g 1 rfl; exact of_call Tryd.call98 (M_laws_eqTest_ok (q10 rfl) (hA.fr hw.size) a0 a1)) <|
      Obls.p (fun R' w' hw hs hd => by have a0 : R' 25 = .bool x9 := hd.g 0 rfl; exact of_not a0) <|
      Obls.nil
    intro R w hw hs hF'
    replace h0 := (hs 0 rfl).trans h0
    replace h1 := (hs 1 rfl).trans h1
    replace h5 := (hs 5 rfl).trans h5
    have h26 : R 26 = .bool (!x9) := hF' 9 _ _ rfl rfl rfl
    replace f_v0 := f_v0.fr hw
    replace f_v1 := f_v1.fr hw
    replace hA := hA.fr hw.size
    replace hF := hF.trans hw
    clear hs hF' hw
    refine seqR_nil ?_
    refine HT.cond (!x9) h26 (fun c11 => ?_) (fun c11 => ?_)
    ·have hr := cnd_t c11 hr
     refine HT.seq ?_
     refine HT.text (l := ⟨_, true, .raw (.bool false)⟩ :: []) (tl := []) (by kernel_rfl) (by kernel_rfl) (by kernel_rfl) ?_ ?_
     ·exact
       Obls.p (fun R' w' hw hs hd => of_assign rfl) <|
       Obls.nil
     intro R w hw hs hF'
     have h4 : R 4 = .bool false := hF' 0 _ _ rfl rfl rfl
     replace hA := hA.fr hw.size
     replace hF := hF.trans hw
     clear hs hF' hw
     refine seqR_nil ?_
     refine HT.ret ?_
     obtain rfl := Option.some.inj hr
     have hr := hr0
     replace hr : some _ = some _ := hr
     obtain rfl := Option.some.inj hr
     exact ⟨.inr rfl, [R 4], ⟨rfl, trivial⟩, h4, hF⟩
    ·have hr := cnd_f c11 hr
     refine HT.skip ?_
     obtain ⟨e12, hr⟩ := ck_some hr
     refine HT.text (l := ⟨_, true, .raw (.int .i64 y5)⟩ :: ⟨_, true, .raw (.int .i64 (y5 + (1 : Int)))⟩ :: ⟨_, true, .raw (.int .i64 (y5 + (1 : Int)))⟩ :: []) (tl := []) (by kernel_rfl) (by kernel_rfl) (by kernel_rfl) ?_ ?_
     ·exact
       Obls.p (fun R' w' hw hs hd => of_move ((hs 5 rfl).trans h5)) <|
       Obls.p (fun R' w' hw hs hd => by have a0 : R' 15 = .int .i64 y5 := hd.g 0 rfl; exact of_add a0 rfl e12) <|
       Obls.p (fun R' w' hw hs hd => by have a0 : R' 16 = .int .i64 (y5 + (1 : Int)) := hd.g 0 rfl; exact of_assign a0) <|
       Obls.nil
     intro R w hw hs hF'
     replace h0 := (hs 0 rfl).trans h0
     replace h1 := (hs 1 rfl).trans h1
     have h5 : R 5 = .int .i64 (y5 + (1 : Int)) := hF' 2 _ _ rfl rfl rfl
     replace f_v0 := f_v0.fr hw
     replace f_v1 := f_v1.fr hw
     replace hA := hA.fr hw.size
     replace hF := hF.trans hw
     clear hs hF' hw
     refine seqR_nil ?_
     exact Exists.intro k (And.intro (Nat.lt_succ_self k) ⟨_, hr, hA, hF, h0, h1, h5, f_v0, f_v1⟩)
   ·have hr := cnd_f c6 hr
    refine HT.exit ?_
    obtain rfl := Option.some.inj hr
    exact Exists.intro _ ⟨rfl, hA, hF⟩
  rintro R w ⟨s4, rfl, hA, hF⟩
  have hr := exM_go hr
  refine HT.seq ?_
  refine HT.text (l := ⟨_, true, .raw (.bool true)⟩ :: []) (tl := []) (by kernel_rfl) (by kernel_rfl) (by kernel_rfl) ?_ ?_
  ·exact
    Obls.p (fun R' w' hw hs hd => of_assign rfl) <|
    Obls.nil
  intro R w hw hs hF'
  have h4 : R 4 = .bool true := hF' 0 _ _ rfl rfl rfl
  replace hA := hA.fr hw.size
  replace hF := hF.trans hw
  clear hs hF' hw
  refine seqR_nil ?_
  refine HT.ret ?_
  obtain rfl := Option.some.inj hr
  exact ⟨.inr rfl, [R 4], ⟨rfl, trivial⟩, h4, hF⟩
def M_laws_eqRule (fu : Nat) (p0 : T_impl_Rule) (p1 : T_impl_Rule) : Option Bool :=
 cl true (M_laws_eqTestS fu p0 p1) fun x3 =>
 bif (!x3) then (
  some false
 ) else (
  some true
 )
theorem M_laws_eqRule_ok {fu : Nat} {A0 : Av} {p0 : T_impl_Rule} {p1 : T_impl_Rule} {r : Bool} (hr : M_laws_eqRule fu p0 p1 = some r) {w : World} {v0 : Value} {v1 : Value} (hA : AvOK A0 w) (h0 : Rep E_impl_Rule A0 w v0 p0) (h1 : Rep E_impl_Rule A0 w v1 p1) :
  Calls Tryd.prog 73 #[v0, v1] w fun e w' => ∃ v, e = .returned v ∧ (v = .bool r ∧ Fr w w') := by
 unfold M_laws_eqRule at hr
 obtain ⟨w0, hw0⟩ : ∃ w0, w0 = w := ⟨_, rfl⟩
 have hF : Fr w0 w := hw0 ▸ Fr.refl _
 have hA0 : ∀ b o, A0 b o → b < w0.heap.size := fun b o h => hw0 ▸ hA b o h
 have hA00 : AvOK A0 w0 := hA0
 rw [show Fr w = Fr w0 from hw0 ▸ rfl]
 clear hw0
 obtain ⟨A, hAe⟩ : ∃ A, A = A0 := ⟨_, rfl⟩
 have hAA : ∀ b o, A0 b o → A b o := fun b o h => hAe ▸ h
 replace hA : AvOK A w := hAe ▸ hA
 have hO : IniOK [] A w := IniOK.nil
 refine calls_of_HT2 [.tmp 4] Tryd.func73 Tryd.ntmps73 (by decide) rfl rfl (Nat.le_of_ble_eq_true rfl) ?_
 intro R hR
 have f_v0 : Rep E_impl_Rule A w v0 p0 := hAe ▸ h0
 replace h0 : R 0 = v0 := hR 0 _ rfl
 have f_v1 : Rep E_impl_Rule A w v1 p1 := hAe ▸ h1
 replace h1 : R 1 = v1 := hR 1 _ rfl
 clear hR hAe
 refine HT.seq ?_
 refine HT.textR [] (⟨_, true, [], some (.box w0.heap.size 73 E_impl_Rule p0), true, fun A => .any⟩ :: ⟨_, true, [], some (.box w0.heap.size 73 E_impl_Rule p1), true, fun A => .any⟩ :: ⟨_, true, [], none, true, fun A => .raw (.bool false)⟩ :: []) (by kernel_rfl) (by kernel_rfl) (Wf.mk' (by kernel_rfl) (UAll.cons ust_any (UAll.cons ust_any (UAll.cons ust_raw (UAll.nil)))) (by kernel_rfl) (by kernel_rfl)) hO hA ?_ ?_
 ·exact
   OblsR.cons (OblR.made _ rfl rfl rfl rfl fun A' R' w' ho hd => by have a0 : R' 0 = v0 := (ho.old 0 rfl).trans h0; have ra0 := (f_v0.stp ho.stp).eq a0; exact made_box ra0 (Nat.le_trans hF.size ho.ch.size)) <|
   OblsR.cons (OblR.made _ rfl rfl rfl rfl fun A' R' w' ho hd => by have a0 : R' 1 = v1 := (ho.old 1 rfl).trans h1; have ra0 := (f_v1.stp ho.stp).eq a0; exact made_box ra0 (Nat.le_trans hF.size ho.ch.size)) <|
   OblsR.p (fun A' R' w' ho hd => of_assign rfl) <|
   OblsR.nil
 intro done ρ σ A R w hdn hI
 obtain ⟨b2_0, e_b2_0⟩ := hI.boxv hdn 0 rfl rfl
 have h2 : R 2 = (.pointer (some ⟨b2_0, 0, none⟩)) := (hI.opvR hdn 0 0 rfl rfl rfl rfl rfl).symm.trans e_b2_0
 obtain ⟨b3_1, e_b3_1⟩ := hI.boxv hdn 1 rfl rfl
 have h3 : R 3 = (.pointer (some ⟨b3_1, 0, none⟩)) := (hI.opvR hdn 1 1 rfl rfl rfl rfl rfl).symm.trans e_b3_1
 replace hAA := hI.low' hAA hA0 (hO.ge (trivial))
 replace hF : Fr w0 w := hF.tr hI.ch (hO.ge (trivial))
 replace hO : IniOK [ob (.pointer (some ⟨b2_0, 0, none⟩)) (.box w0.heap.size 73 E_impl_Rule p0), ob (.pointer (some ⟨b3_1, 0, none⟩)) (.box w0.heap.size 73 E_impl_Rule p1)] A w := hI.left hdn [(0, ob (.pointer (some ⟨b2_0, 0, none⟩)) (.box w0.heap.size 73 E_impl_Rule p0)), (1, ob (.pointer (some ⟨b3_1, 0, none⟩)) (.box w0.heap.size 73 E_impl_Rule p1))] ⟨rfl, rfl, e_b2_0, rfl, rfl, ⟨rfl, rfl, e_b3_1, rfl, rfl, trivial⟩⟩
 replace hA := hI.avok
 clear hI
 refine HT.seq ?_
 refine HT.seq ?_
 obtain ⟨x3, q4, hr⟩ := cl_some hr
 refine HT.text (l := ⟨_, true, .raw (.pointer (some ⟨b2_0, 0, none⟩))⟩ :: ⟨_, true, .rep (eSl E_impl_Test) A p0⟩ :: ⟨_, true, .raw (.pointer (some ⟨b3_1, 0, none⟩))⟩ :: ⟨_, true, .rep (eSl E_impl_Test) A p1⟩ :: ⟨_, true, .raw (.bool x3)⟩ :: ⟨_, true, .raw (.bool (!x3))⟩ :: []) (tl := []) (by kernel_rfl) (by kernel_rfl) (by kernel_rfl) ?_ ?_
 ·exact
   Obls.p (fun R' w' hw hs hd => of_fieldAddr_raw ((hs 2 rfl).trans h2) ff_73_0 Tryd.sizeOf71 (by decide) rfl) <|
   Obls.p (fun R' w' hw hs hd => by have a0 : R' 5 = (.pointer (some ⟨b2_0, 0, none⟩)) := hd.g 0 rfl; exact (of_load_box ((hO.fr hw).ok 0 _ rfl).1 a0 fl_impl_Rule_0 rfl Tryd.isAgg71 Tryd.sizeOf71)) <|
   Obls.p (fun R' w' hw hs hd => of_fieldAddr_raw ((hs 3 rfl).trans h3) ff_73_0 Tryd.sizeOf71 (by decide) rfl) <|
   Obls.p (fun R' w' hw hs hd => by have a0 : R' 7 = (.pointer (some ⟨b3_1, 0, none⟩)) := hd.g 0 rfl; exact (of_load_box ((hO.fr hw).ok 1 _ rfl).1 a0 fl_impl_Rule_0 rfl Tryd.isAgg71 Tryd.sizeOf71)) <|
   Obls.p (fun R' w' hw hs hd => by have a0 : Rep (eSl E_impl_Test) A w' (R' 6) p0 := hd.g 0 rfl; have a1 : Rep (eSl E_impl_Test) A w' (R' 8) p1 := hd.g 1 rfl; exact of_call Tryd.call87 (M_laws_eqTestS_ok (q4 rfl) (hA.fr hw.size) a0 a1)) <|
   Obls.p (fun R' w' hw hs hd => by have a0 : R' 9 = .bool x3 := hd.g 0 rfl; exact of_not a0) <|
   Obls.nil
 intro R w hw hs hF'
 have h10 : R 10 = .bool (!x3) := hF' 5 _ _ rfl rfl rfl
 replace hO := hO.fr hw
 replace hO : IniOK [] A w := hO.sub [] trivial
 replace hA := hA.fr hw.size
 replace hF := hF.trans hw
 clear hs hF' hw
 refine seqR_nil ?_
 refine HT.cond (!x3) h10 (fun c5 => ?_) (fun c5 => ?_)
 ·have hr := cnd_t c5 hr
  refine HT.seq ?_
  refine HT.text (l := ⟨_, true, .raw (.bool false)⟩ :: []) (tl := []) (by kernel_rfl) (by kernel_rfl) (by kernel_rfl) ?_ ?_
  ·exact
    Obls.p (fun R' w' hw hs hd => of_assign rfl) <|
    Obls.nil
  intro R w hw hs hF'
  have h4 : R 4 = .bool false := hF' 0 _ _ rfl rfl rfl
  replace hO := hO.fr hw
  replace hA := hA.fr hw.size
  replace hF := hF.trans hw
  clear hs hF' hw
  refine seqR_nil ?_
  refine HT.ret ?_
  obtain rfl := Option.some.inj hr
  exact ⟨.inr rfl, [R 4], ⟨rfl, trivial⟩, h4, hF⟩
 ·have hr := cnd_f c5 hr
  refine HT.skip ?_
  refine HT.seq ?_
  refine HT.text (l := ⟨_, true, .raw (.bool true)⟩ :: []) (tl := []) (by kernel_rfl) (by kernel_rfl) (by kernel_rfl) ?_ ?_
  ·exact
    Obls.p (fun R' w' hw hs hd => of_assign rfl) <|
    Obls.nil
  intro R w hw hs hF'
  have h4 : R 4 = .bool true := hF' 0 _ _ rfl rfl rfl
  replace hO := hO.fr hw
  replace hA := hA.fr hw.size
  replace hF := hF.trans hw
  clear hs hF' hw
  refine seqR_nil ?_
  refine HT.ret ?_
  obtain rfl := Option.some.inj hr
  exact ⟨.inr rfl, [R 4], ⟨rfl, trivial⟩, h4, hF⟩
def M_laws_eqRuleS_L0 (fu : Nat) (p0 : List T_impl_Rule) (p1 : List T_impl_Rule) : Nat → Int → Option (Ex Bool Unit)
 | 0, _ => none
 | k + 1, y5 =>
  bif (decide (y5 < (p0.length : Int))) then (
   ck (inR y5 p0.length) <|
   ck (inR y5 p1.length) <|
   cl true (M_laws_eqRule fu (gtD p0 y5) (gtD p1 y5)) fun x9 =>
   bif (!x9) then (
    some (Ex.ret false)
   ) else (
    ck (i64B (y5 + (1 : Int))) <|
    M_laws_eqRuleS_L0 fu p0 p1 k (y5 + (1 : Int))
   )
  ) else (
   some (Ex.go ())
  )
def M_laws_eqRuleS (fu : Nat) (p0 : List T_impl_Rule) (p1 : List T_impl_Rule) : Option Bool :=
 bif ((p0.length : Int) != (p1.length : Int)) then (
  some false
 ) else (
  cl true (M_laws_eqRuleS_L0 fu p0 p1 fu (0 : Int)) fun rl2 =>
  exM rl2 (fun r => some r) fun s4 =>
  some true
 )
theorem M_laws_eqRuleS_ok {fu : Nat} {A : Av} {p0 : List T_impl_Rule} {p1 : List T_impl_Rule} {r : Bool} (hr : M_laws_eqRuleS fu p0 p1 = some r) {w : World} {v0 : Value} {v1 : Value} (hA : AvOK A w) (h0 : Rep (eSl E_impl_Rule) A w v0 p0) (h1 : Rep (eSl E_impl_Rule) A w v1 p1) :
  Calls Tryd.prog 46 #[v0, v1] w fun e w' => ∃ v, e = .returned v ∧ (v = .bool r ∧ Fr w w') := by
 unfold M_laws_eqRuleS at hr
 obtain ⟨w0, hw0⟩ : ∃ w0, w0 = w := ⟨_, rfl⟩
 have hF : Fr w0 w := hw0 ▸ Fr.refl _
 rw [show Fr w = Fr w0 from hw0 ▸ rfl]
 clear hw0
 refine calls_of_HT2 [.tmp 4] Tryd.func46 Tryd.ntmps46 (by decide) rfl rfl (Nat.le_of_ble_eq_true rfl) ?_
 intro R hR
 have f_v0 := h0
 replace h0 : R 0 = v0 := hR 0 _ rfl
 have f_v1 := h1
 replace h1 : R 1 = v1 := hR 1 _ rfl
 clear hR
 refine HT.seq ?_
 refine HT.text (l := ⟨_, true, .raw (.bool false)⟩ :: []) (tl := []) (by kernel_rfl) (by kernel_rfl) (by kernel_rfl) ?_ ?_
 ·exact
   Obls.p (fun R' w' hw hs hd => of_assign rfl) <|
   Obls.nil
 intro R w hw hs hF'
 replace h0 := (hs 0 rfl).trans h0
 replace h1 := (hs 1 rfl).trans h1
 replace f_v0 := f_v0.fr hw
 replace f_v1 := f_v1.fr hw
 replace hA := hA.fr hw.size
 replace hF := hF.trans hw
 clear hs hF' hw
 refine seqR_nil ?_
 refine HT.seq ?_
 refine HT.seq ?_
 refine HT.text (l := ⟨_, true, .raw v0⟩ :: ⟨_, true, .raw (.int .i64 (p0.length : Int))⟩ :: ⟨_, true, .raw v1⟩ :: ⟨_, true, .raw (.int .i64 (p1.length : Int))⟩ :: ⟨_, true, .raw (.bool ((p0.length : Int) != (p1.length : Int)))⟩ :: []) (tl := []) (by kernel_rfl) (by kernel_rfl) (by kernel_rfl) ?_ ?_
 ·exact
   Obls.p (fun R' w' hw hs hd => of_move ((hs 0 rfl).trans h0)) <|
   Obls.p (fun R' w' hw hs hd => by have a0 : R' 6 = v0 := hd.g 0 rfl; have ra0 := (f_v0.fr hw).eq a0; exact of_len_sl (aT := #[]) ra0 Tryd.underlying43) <|
   Obls.p (fun R' w' hw hs hd => of_move ((hs 1 rfl).trans h1)) <|
   Obls.p (fun R' w' hw hs hd => by have a0 : R' 8 = v1 := hd.g 0 rfl; have ra0 := (f_v1.fr hw).eq a0; exact of_len_sl (aT := #[]) ra0 Tryd.underlying43) <|
   Obls.p (fun R' w' hw hs hd => by have a0 : R' 7 = .int .i64 (p0.length : Int) := hd.g 0 rfl; have a1 : R' 9 = .int .i64 (p1.length : Int) := hd.g 1 rfl; exact of_neq a0 a1) <|
   Obls.nil
 intro R w hw hs hF'
 replace h0 := (hs 0 rfl).trans h0
 replace h1 := (hs 1 rfl).trans h1
 have h10 : R 10 = .bool ((p0.length : Int) != (p1.length : Int)) := hF' 4 _ _ rfl rfl rfl
 replace f_v0 := f_v0.fr hw
 replace f_v1 := f_v1.fr hw
 replace hA := hA.fr hw.size
 replace hF := hF.trans hw
 clear hs hF' hw
 refine seqR_nil ?_
 refine HT.cond ((p0.length : Int) != (p1.length : Int)) h10 (fun c1 => ?_) (fun c1 => ?_)
 ·have hr := cnd_t c1 hr
  refine HT.seq ?_
  refine HT.text (l := ⟨_, true, .raw (.bool false)⟩ :: []) (tl := []) (by kernel_rfl) (by kernel_rfl) (by kernel_rfl) ?_ ?_
  ·exact
    Obls.p (fun R' w' hw hs hd => of_assign rfl) <|
    Obls.nil
  intro R w hw hs hF'
  have h4 : R 4 = .bool false := hF' 0 _ _ rfl rfl rfl
  replace hA := hA.fr hw.size
  replace hF := hF.trans hw
  clear hs hF' hw
  refine seqR_nil ?_
  refine HT.ret ?_
  obtain rfl := Option.some.inj hr
  exact ⟨.inr rfl, [R 4], ⟨rfl, trivial⟩, h4, hF⟩
 ·have hr := cnd_f c1 hr
  refine HT.skip ?_
  refine HT.seq ?_
  refine HT.seq ?_
  refine HT.text (l := ⟨_, true, .raw (.int .i64 (0 : Int))⟩ :: []) (tl := []) (by kernel_rfl) (by kernel_rfl) (by kernel_rfl) ?_ ?_
  ·exact
    Obls.p (fun R' w' hw hs hd => of_assign rfl) <|
    Obls.nil
  intro R w hw hs hF'
  replace h0 := (hs 0 rfl).trans h0
  replace h1 := (hs 1 rfl).trans h1
  have h5 : R 5 = .int .i64 (0 : Int) := hF' 0 _ _ rfl rfl rfl
  replace f_v0 := f_v0.fr hw
  replace f_v1 := f_v1.fr hw
  replace hA := hA.fr hw.size
  replace hF := hF.trans hw
  clear hs hF' hw
  refine seqR_nil ?_
  obtain ⟨rl2, q3, hr⟩ := cl_some hr
  replace q3 := q3 rfl
  refine HT.cut0 (fun R w => ∃ (s4 : Unit), rl2 = Ex.go s4 ∧ AvOK A w ∧ Fr w0 w) ?_ ?_
  ·refine HT.block ?_
   refine HT.loop (fun k R w => ∃ (y5 : Int), M_laws_eqRuleS_L0 fu p0 p1 k y5 = some rl2 ∧ AvOK A w ∧ Fr w0 w ∧ R 0 = v0 ∧ R 1 = v1 ∧ R 5 = .int .i64 y5 ∧ Rep (eSl E_impl_Rule) A w v0 p0 ∧ Rep (eSl E_impl_Rule) A w v1 p1) fu ⟨_, q3, hA, hF, h0, h1, h5, f_v0, f_v1⟩ ?_
   have hr0 := hr; clear hr q3
   rintro k R w ⟨y5, hr, hA, hF, h0, h1, h5, f_v0, f_v1⟩
   rcases k with _ | k
   ·cases (show none = some _ from hr)
   rw [M_laws_eqRuleS_L0] at hr
   refine HT.seq ?_
   refine HT.seq ?_
   refine HT.text (l := ⟨_, true, .raw (.int .i64 y5)⟩ :: ⟨_, true, .raw v0⟩ :: ⟨_, true, .raw (.int .i64 (p0.length : Int))⟩ :: ⟨_, true, .raw (.bool (decide (y5 < (p0.length : Int))))⟩ :: []) (tl := []) (by kernel_rfl) (by kernel_rfl) (by kernel_rfl) ?_ ?_
   ·exact
     Obls.p (fun R' w' hw hs hd => of_move ((hs 5 rfl).trans h5)) <|
     Obls.p (fun R' w' hw hs hd => of_move ((hs 0 rfl).trans h0)) <|
     Obls.p (fun R' w' hw hs hd => by have a0 : R' 12 = v0 := hd.g 0 rfl; have ra0 := (f_v0.fr hw).eq a0; exact of_len_sl (aT := #[]) ra0 Tryd.underlying43) <|
     Obls.p (fun R' w' hw hs hd => by have a0 : R' 11 = .int .i64 y5 := hd.g 0 rfl; have a1 : R' 13 = .int .i64 (p0.length : Int) := hd.g 1 rfl; exact of_lss a0 a1) <|
     Obls.nil
   intro R w hw hs hF'
   replace h0 := (hs 0 rfl).trans h0
   replace h1 := (hs 1 rfl).trans h1
   replace h5 := (hs 5 rfl).trans h5
   have h14 : R 14 = .bool (decide (y5 < (p0.length : Int))) := hF' 3 _ _ rfl rfl rfl
   replace f_v0 := f_v0.fr hw
   replace f_v1 := f_v1.fr hw
   replace hA := hA.fr hw.size
   replace hF := hF.trans hw
   clear hs hF' hw
   refine seqR_nil ?_
   refine HT.cond (decide (y5 < (p0.length : Int))) h14 (fun c6 => ?_) (fun c6 => ?_)
   ·have hr := cnd_t c6 hr
    refine HT.skip ?_
    refine HT.seq ?_
    refine HT.block ?_
    refine HT.seq ?_
    obtain ⟨e7, hr⟩ := ck_some hr
    obtain ⟨e8, hr⟩ := ck_some hr
    obtain ⟨x9, q10, hr⟩ := cl_some hr
    refine HT.draw (by kernel_rfl) (l := ⟨_, true, .raw v0⟩ :: ⟨_, true, .raw (.int .i64 y5)⟩ :: ⟨_, true, .qtr E_impl_Rule A (gtD p0 y5)⟩ :: ⟨_, true, .rep E_impl_Rule A (gtD p0 y5)⟩ :: ⟨_, true, .raw v1⟩ :: ⟨_, true, .raw (.int .i64 y5)⟩ :: ⟨_, true, .qtr E_impl_Rule A (gtD p1 y5)⟩ :: ⟨_, true, .rep E_impl_Rule A (gtD p1 y5)⟩ :: ⟨_, true, .raw (.bool x9)⟩ :: ⟨_, true, .raw (.bool (!x9))⟩ :: []) (tl := []) (by kernel_rfl) (by kernel_rfl) (by kernel_rfl) (by kernel_rfl) ?_ ?_
    ·exact
      Obls.p (fun R' w' hw hs hd => of_move ((hs 0 rfl).trans h0)) <|
      Obls.p (fun R' w' hw hs hd => of_move ((hs 5 rfl).trans h5)) <|
      Obls.p (fun R' w' hw hs hd => by have a0 : R' 17 = v0 := hd.g 0 rfl; have a1 : R' 18 = .int .i64 y5 := hd.g 1 rfl; have ra0 := (f_v0.fr hw).eq a0; exact of_indexAddr ra0 a1 Tryd.underlying43 Tryd.sizeOf73 e7) <|
      Obls.p (fun R' w' hw hs hd => by have a0 : QRep E_impl_Rule A w' (R' 19) (gtD p0 y5) := hd.g 0 rfl; exact (of_load a0.ptr Tryd.isAgg73 Tryd.sizeOf73)) <|
      Obls.p (fun R' w' hw hs hd => of_move ((hs 1 rfl).trans h1)) <|
      Obls.p (fun R' w' hw hs hd => of_move ((hs 5 rfl).trans h5)) <|
      Obls.p (fun R' w' hw hs hd => by have a0 : R' 21 = v1 := hd.g 0 rfl; have a1 : R' 22 = .int .i64 y5 := hd.g 1 rfl; have ra0 := (f_v1.fr hw).eq a0; exact of_indexAddr ra0 a1 Tryd.underlying43 Tryd.sizeOf73 e8) <|
      Obls.p (fun R' w' hw hs hd => by have a0 : QRep E_impl_Rule A w' (R' 23) (gtD p1 y5) := hd.g 0 rfl; exact (of_load a0.ptr Tryd.isAgg73 Tryd.sizeOf73)) <|
      Obls.p (fun R' w' hw hs hd => by have a0 : Rep E_impl_Rule A w' (R' 20) (gtD p0 y5) := hd.g 0 rfl; have a1 : Rep E_impl_Rule A w' (R' 24) (gtD p1 y5) := hd.g 1 rfl; exact of_call Tryd.call73 (M_laws_eqRule_ok (q10 rfl) (hA.fr hw.size) a0 a1)) <|
      Obls.p (fun R' w' hw hs hd => by have a0 : R' 25 = .bool x9 := hd.g 0 rfl; exact of_not a0) <|
      Obls.nil
    intro R w hw hs hF'
    replace h0 := (hs 0 rfl).trans h0
    replace h1 := (hs 1 rfl).trans h1
    replace h5 := (hs 5 rfl).trans h5
    have h26 : R 26 = .bool (!x9) := hF' 9 _ _ rfl rfl rfl
    replace f_v0 := f_v0.fr hw
    replace f_v1 := f_v1.fr hw
    replace hA := hA.fr hw.size
    replace hF := hF.trans hw
    clear hs hF' hw
    refine seqR_nil ?_
    refine HT.cond (!x9) h26 (fun c11 => ?_) (fun c11 => ?_)
    ·have hr := cnd_t c11 hr
     refine HT.seq ?_
     refine HT.text (l := ⟨_, true, .raw (.bool false)⟩ :: []) (tl := []) (by kernel_rfl) (by kernel_rfl) (by kernel_rfl) ?_ ?_
     ·exact
       Obls.p (fun R' w' hw hs hd => of_assign rfl) <|
       Obls.nil
     intro R w hw hs hF'
     have h4 : R 4 = .bool false := hF' 0 _ _ rfl rfl rfl
     replace hA := hA.fr hw.size
     replace hF := hF.trans hw
     clear hs hF' hw
     refine seqR_nil ?_
     refine HT.ret ?_
     obtain rfl := Option.some.inj hr
     have hr := hr0
     replace hr : some _ = some _ := hr
     obtain rfl := Option.some.inj hr
     exact ⟨.inr rfl, [R 4], ⟨rfl, trivial⟩, h4, hF⟩
    ·have hr := cnd_f c11 hr
     refine HT.skip ?_
     obtain ⟨e12, hr⟩ := ck_some hr
     refine HT.text (l := ⟨_, true, .raw (.int .i64 y5)⟩ :: ⟨_, true, .raw (.int .i64 (y5 + (1 : Int)))⟩ :: ⟨_, true, .raw (.int .i64 (y5 + (1 : Int)))⟩ :: []) (tl := []) (by kernel_rfl) (by kernel_rfl) (by kernel_rfl) ?_ ?_
     ·exact
       Obls.p (fun R' w' hw hs hd => of_move ((hs 5 rfl).trans h5)) <|
       Obls.p (fun R' w' hw hs hd => by have a0 : R' 15 = .int .i64 y5 := hd.g 0 rfl; exact of_add a0 rfl e12) <|
       Obls.p (fun R' w' hw hs hd => by have a0 : R' 16 = .int .i64 (y5 + (1 : Int)) := hd.g 0 rfl; exact of_assign a0) <|
       Obls.nil
     intro R w hw hs hF'
     replace h0 := (hs 0 rfl).trans h0
     replace h1 := (hs 1 rfl).trans h1
     have h5 : R 5 = .int .i64 (y5 + (1 : Int)) := hF' 2 _ _ rfl rfl rfl
     replace f_v0 := f_v0.fr hw
     replace f_v1 := f_v1.fr hw
     replace hA := hA.fr hw.size
     replace hF := hF.trans hw
     clear hs hF' hw
     refine seqR_nil ?_
     exact Exists.intro k (And.intro (Nat.lt_succ_self k) ⟨_, hr, hA, hF, h0, h1, h5, f_v0, f_v1⟩)
   ·have hr := cnd_f c6 hr
    refine HT.exit ?_
    obtain rfl := Option.some.inj hr
    exact Exists.intro _ ⟨rfl, hA, hF⟩
  rintro R w ⟨s4, rfl, hA, hF⟩
  have hr := exM_go hr
  refine HT.seq ?_
  refine HT.text (l := ⟨_, true, .raw (.bool true)⟩ :: []) (tl := []) (by kernel_rfl) (by kernel_rfl) (by kernel_rfl) ?_ ?_
  ·exact
    Obls.p (fun R' w' hw hs hd => of_assign rfl) <|
    Obls.nil
  intro R w hw hs hF'
  have h4 : R 4 = .bool true := hF' 0 _ _ rfl rfl rfl
  replace hA := hA.fr hw.size
  replace hF := hF.trans hw
  clear hs hF' hw
  refine seqR_nil ?_
  refine HT.ret ?_
  obtain rfl := Option.some.inj hr
  exact ⟨.inr rfl, [R 4], ⟨rfl, trivial⟩, h4, hF⟩
def M_laws_eqRuleSet (fu : Nat) (p0 : T_impl_RuleSet) (p1 : T_impl_RuleSet) : Option Bool :=
 cl true (M_laws_eqRuleS fu p0 p1) fun x3 =>
 bif (!x3) then (
  some false
 ) else (
  some true
 )
theorem M_laws_eqRuleSet_ok {fu : Nat} {A0 : Av} {p0 : T_impl_RuleSet} {p1 : T_impl_RuleSet} {r : Bool} (hr : M_laws_eqRuleSet fu p0 p1 = some r) {w : World} {v0 : Value} {v1 : Value} (hA : AvOK A0 w) (h0 : Rep E_impl_RuleSet A0 w v0 p0) (h1 : Rep E_impl_RuleSet A0 w v1 p1) :
  Calls Tryd.prog 21 #[v0, v1] w fun e w' => ∃ v, e = .returned v ∧ (v = .bool r ∧ Fr w w') := by
 unfold M_laws_eqRuleSet at hr
 obtain ⟨w0, hw0⟩ : ∃ w0, w0 = w := ⟨_, rfl⟩
 have hF : Fr w0 w := hw0 ▸ Fr.refl _
 have hA0 : ∀ b o, A0 b o → b < w0.heap.size := fun b o h => hw0 ▸ hA b o h
 have hA00 : AvOK A0 w0 := hA0
 rw [show Fr w = Fr w0 from hw0 ▸ rfl]
 clear hw0
 obtain ⟨A, hAe⟩ : ∃ A, A = A0 := ⟨_, rfl⟩
 have hAA : ∀ b o, A0 b o → A b o := fun b o h => hAe ▸ h
 replace hA : AvOK A w := hAe ▸ hA
 have hO : IniOK [] A w := IniOK.nil
 refine calls_of_HT2 [.tmp 4] Tryd.func21 Tryd.ntmps21 (by decide) rfl rfl (Nat.le_of_ble_eq_true rfl) ?_
 intro R hR
 have f_v0 : Rep E_impl_RuleSet A w v0 p0 := hAe ▸ h0
 replace h0 : R 0 = v0 := hR 0 _ rfl
 have f_v1 : Rep E_impl_RuleSet A w v1 p1 := hAe ▸ h1
 replace h1 : R 1 = v1 := hR 1 _ rfl
 clear hR hAe
 refine HT.seq ?_
 refine HT.textR [] (⟨_, true, [], some (.box w0.heap.size 45 E_impl_RuleSet p0), true, fun A => .any⟩ :: ⟨_, true, [], some (.box w0.heap.size 45 E_impl_RuleSet p1), true, fun A => .any⟩ :: ⟨_, true, [], none, true, fun A => .raw (.bool false)⟩ :: []) (by kernel_rfl) (by kernel_rfl) (Wf.mk' (by kernel_rfl) (UAll.cons ust_any (UAll.cons ust_any (UAll.cons ust_raw (UAll.nil)))) (by kernel_rfl) (by kernel_rfl)) hO hA ?_ ?_
 ·exact
   OblsR.cons (OblR.made _ rfl rfl rfl rfl fun A' R' w' ho hd => by have a0 : R' 0 = v0 := (ho.old 0 rfl).trans h0; have ra0 := (f_v0.stp ho.stp).eq a0; exact made_box ra0 (Nat.le_trans hF.size ho.ch.size)) <|
   OblsR.cons (OblR.made _ rfl rfl rfl rfl fun A' R' w' ho hd => by have a0 : R' 1 = v1 := (ho.old 1 rfl).trans h1; have ra0 := (f_v1.stp ho.stp).eq a0; exact made_box ra0 (Nat.le_trans hF.size ho.ch.size)) <|
   OblsR.p (fun A' R' w' ho hd => of_assign rfl) <|
   OblsR.nil
 intro done ρ σ A R w hdn hI
 obtain ⟨b2_0, e_b2_0⟩ := hI.boxv hdn 0 rfl rfl
 have h2 : R 2 = (.pointer (some ⟨b2_0, 0, none⟩)) := (hI.opvR hdn 0 0 rfl rfl rfl rfl rfl).symm.trans e_b2_0
 obtain ⟨b3_1, e_b3_1⟩ := hI.boxv hdn 1 rfl rfl
 have h3 : R 3 = (.pointer (some ⟨b3_1, 0, none⟩)) := (hI.opvR hdn 1 1 rfl rfl rfl rfl rfl).symm.trans e_b3_1
 replace hAA := hI.low' hAA hA0 (hO.ge (trivial))
 replace hF : Fr w0 w := hF.tr hI.ch (hO.ge (trivial))
 replace hO : IniOK [ob (.pointer (some ⟨b2_0, 0, none⟩)) (.box w0.heap.size 45 E_impl_RuleSet p0), ob (.pointer (some ⟨b3_1, 0, none⟩)) (.box w0.heap.size 45 E_impl_RuleSet p1)] A w := hI.left hdn [(0, ob (.pointer (some ⟨b2_0, 0, none⟩)) (.box w0.heap.size 45 E_impl_RuleSet p0)), (1, ob (.pointer (some ⟨b3_1, 0, none⟩)) (.box w0.heap.size 45 E_impl_RuleSet p1))] ⟨rfl, rfl, e_b2_0, rfl, rfl, ⟨rfl, rfl, e_b3_1, rfl, rfl, trivial⟩⟩
 replace hA := hI.avok
 clear hI
 refine HT.seq ?_
 refine HT.seq ?_
 obtain ⟨x3, q4, hr⟩ := cl_some hr
 refine HT.text (l := ⟨_, true, .raw (.pointer (some ⟨b2_0, 0, none⟩))⟩ :: ⟨_, true, .rep (eSl E_impl_Rule) A p0⟩ :: ⟨_, true, .raw (.pointer (some ⟨b3_1, 0, none⟩))⟩ :: ⟨_, true, .rep (eSl E_impl_Rule) A p1⟩ :: ⟨_, true, .raw (.bool x3)⟩ :: ⟨_, true, .raw (.bool (!x3))⟩ :: []) (tl := []) (by kernel_rfl) (by kernel_rfl) (by kernel_rfl) ?_ ?_
 ·exact
   Obls.p (fun R' w' hw hs hd => of_fieldAddr_raw ((hs 2 rfl).trans h2) ff_45_0 Tryd.sizeOf43 (by decide) rfl) <|
   Obls.p (fun R' w' hw hs hd => by have a0 : R' 5 = (.pointer (some ⟨b2_0, 0, none⟩)) := hd.g 0 rfl; exact (of_load_box ((hO.fr hw).ok 0 _ rfl).1 a0 fl_impl_RuleSet_0 rfl Tryd.isAgg43 Tryd.sizeOf43)) <|
   Obls.p (fun R' w' hw hs hd => of_fieldAddr_raw ((hs 3 rfl).trans h3) ff_45_0 Tryd.sizeOf43 (by decide) rfl) <|
   Obls.p (fun R' w' hw hs hd => by have a0 : R' 7 = (.pointer (some ⟨b3_1, 0, none⟩)) := hd.g 0 rfl; exact (of_load_box ((hO.fr hw).ok 1 _ rfl).1 a0 fl_impl_RuleSet_0 rfl Tryd.isAgg43 Tryd.sizeOf43)) <|
   Obls.p (fun R' w' hw hs hd => by have a0 : Rep (eSl E_impl_Rule) A w' (R' 6) p0 := hd.g 0 rfl; have a1 : Rep (eSl E_impl_Rule) A w' (R' 8) p1 := hd.g 1 rfl; exact of_call Tryd.call46 (M_laws_eqRuleS_ok (q4 rfl) (hA.fr hw.size) a0 a1)) <|
   Obls.p (fun R' w' hw hs hd => by have a0 : R' 9 = .bool x3 := hd.g 0 rfl; exact of_not a0) <|
   Obls.nil
 intro R w hw hs hF'
 have h10 : R 10 = .bool (!x3) := hF' 5 _ _ rfl rfl rfl
 replace hO := hO.fr hw
 replace hO : IniOK [] A w := hO.sub [] trivial
 replace hA := hA.fr hw.size
 replace hF := hF.trans hw
 clear hs hF' hw
 refine seqR_nil ?_
 refine HT.cond (!x3) h10 (fun c5 => ?_) (fun c5 => ?_)
 ·have hr := cnd_t c5 hr
  refine HT.seq ?_
  refine HT.text (l := ⟨_, true, .raw (.bool false)⟩ :: []) (tl := []) (by kernel_rfl) (by kernel_rfl) (by kernel_rfl) ?_ ?_
  ·exact
    Obls.p (fun R' w' hw hs hd => of_assign rfl) <|
    Obls.nil
  intro R w hw hs hF'
  have h4 : R 4 = .bool false := hF' 0 _ _ rfl rfl rfl
  replace hO := hO.fr hw
  replace hA := hA.fr hw.size
  replace hF := hF.trans hw
  clear hs hF' hw
  refine seqR_nil ?_
  refine HT.ret ?_
  obtain rfl := Option.some.inj hr
  exact ⟨.inr rfl, [R 4], ⟨rfl, trivial⟩, h4, hF⟩
 ·have hr := cnd_f c5 hr
  refine HT.skip ?_
  refine HT.seq ?_
  refine HT.text (l := ⟨_, true, .raw (.bool true)⟩ :: []) (tl := []) (by kernel_rfl) (by kernel_rfl) (by kernel_rfl) ?_ ?_
  ·exact
    Obls.p (fun R' w' hw hs hd => of_assign rfl) <|
    Obls.nil
  intro R w hw hs hF'
  have h4 : R 4 = .bool true := hF' 0 _ _ rfl rfl rfl
  replace hO := hO.fr hw
  replace hA := hA.fr hw.size
  replace hF := hF.trans hw
  clear hs hF' hw
  refine seqR_nil ?_
  refine HT.ret ?_
  obtain rfl := Option.some.inj hr
  exact ⟨.inr rfl, [R 4], ⟨rfl, trivial⟩, h4, hF⟩
def M_laws_FnExactFormatRules (fu : Nat) (p0 : T_laws_RuleSet) : Option Bool :=
 cl true (M_laws_szRuleSet fu p0 (1048576 : Int)) fun x2 =>
 bif (decide (x2 < (0 : Int))) then (
  some true
 ) else (
  cl true (M_laws_toRuleSet fu p0) fun x5 =>
  cl true (M_spec_FormatRules fu x5) fun x7 =>
  cl true (M_laws_toRuleSet fu p0) fun x10 =>
  cl true (M_impl_FormatRules fu x10) fun x15 =>
  bif (!(x15 == x7)) then (
   some false
  ) else (
   cl true (M_laws_toRuleSet fu p0) fun x19 =>
   cl true (M_laws_eqRuleSet fu x10 x19) fun x21 =>
   bif (!x21) then (
    some false
   ) else (
    some true
   )
  )
 )
theorem M_laws_FnExactFormatRules_ok {fu : Nat} {A0 : Av} {p0 : T_laws_RuleSet} {r : Bool} (hr : M_laws_FnExactFormatRules fu p0 = some r) {w : World} {v0 : Value} (hA : AvOK A0 w) (hG : GTab w) (h0 : Rep E_laws_RuleSet A0 w v0 p0) :
  Calls Tryd.prog 5 #[v0] w fun e w' => ∃ v, e = .returned v ∧ (v = .bool r ∧ Fr w w') := by
 unfold M_laws_FnExactFormatRules at hr
 obtain ⟨w0, hw0⟩ : ∃ w0, w0 = w := ⟨_, rfl⟩
 have hF : Fr w0 w := hw0 ▸ Fr.refl _
 have hA0 : ∀ b o, A0 b o → b < w0.heap.size := fun b o h => hw0 ▸ hA b o h
 have hA00 : AvOK A0 w0 := hA0
 rw [show Fr w = Fr w0 from hw0 ▸ rfl]
 have hG0 : GTab w0 := hw0 ▸ hG
 clear hw0
 obtain ⟨A, hAe⟩ : ∃ A, A = A0 := ⟨_, rfl⟩
 have hAA : ∀ b o, A0 b o → A b o := fun b o h => hAe ▸ h
 replace hA : AvOK A w := hAe ▸ hA
 have hO : IniOK [] A w := IniOK.nil
 refine calls_of_HT2 [.tmp 2] Tryd.func5 Tryd.ntmps5 (by decide) rfl rfl (Nat.le_of_ble_eq_true rfl) ?_
 intro R hR
 have f_v0 : Rep E_laws_RuleSet A w v0 p0 := hAe ▸ h0
 replace h0 : R 0 = v0 := hR 0 _ rfl
 clear hR hAe
 refine HT.seq ?_
 refine HT.textR [] (⟨_, true, [], some (.box w0.heap.size 40 E_laws_RuleSet p0), true, fun A => .any⟩ :: ⟨_, true, [], none, true, fun A => .raw (.bool false)⟩ :: []) (by kernel_rfl) (by kernel_rfl) (Wf.mk' (by kernel_rfl) (UAll.cons ust_any (UAll.cons ust_raw (UAll.nil))) (by kernel_rfl) (by kernel_rfl)) hO hA ?_ ?_
 ·exact
   OblsR.cons (OblR.made _ rfl rfl rfl rfl fun A' R' w' ho hd => by have a0 : R' 0 = v0 := (ho.old 0 rfl).trans h0; have ra0 := (f_v0.stp ho.stp).eq a0; exact made_box ra0 (Nat.le_trans hF.size ho.ch.size)) <|
   OblsR.p (fun A' R' w' ho hd => of_assign rfl) <|
   OblsR.nil
 intro done ρ σ A R w hdn hI
 obtain ⟨b1_0, e_b1_0⟩ := hI.boxv hdn 0 rfl rfl
 have h1 : R 1 = (.pointer (some ⟨b1_0, 0, none⟩)) := (hI.opvR hdn 0 0 rfl rfl rfl rfl rfl).symm.trans e_b1_0
 replace hAA := hI.low' hAA hA0 (hO.ge (trivial))
 replace hF : Fr w0 w := hF.tr hI.ch (hO.ge (trivial))
 replace hO : IniOK [ob (.pointer (some ⟨b1_0, 0, none⟩)) (.box w0.heap.size 40 E_laws_RuleSet p0)] A w := hI.left hdn [(0, ob (.pointer (some ⟨b1_0, 0, none⟩)) (.box w0.heap.size 40 E_laws_RuleSet p0))] ⟨rfl, rfl, e_b1_0, rfl, rfl, trivial⟩
 replace hA := hI.avok
 clear hI
 refine HT.seq ?_
 refine HT.text (l := ⟨_, true, .raw (.int .i64 (1048576 : Int))⟩ :: []) (tl := []) (by kernel_rfl) (by kernel_rfl) (by kernel_rfl) ?_ ?_
 ·exact
   Obls.p (fun R' w' hw hs hd => of_assign rfl) <|
   Obls.nil
 intro R w hw hs hF'
 replace h1 := (hs 1 rfl).trans h1
 have h3 : R 3 = .int .i64 (1048576 : Int) := hF' 0 _ _ rfl rfl rfl
 replace hO := hO.fr hw
 replace hA := hA.fr hw.size
 replace hF := hF.trans hw
 clear hs hF' hw
 refine seqR_nil ?_
 refine HT.seq ?_
 obtain ⟨x2, q3, hr⟩ := cl_some hr
 refine HT.text (l := ⟨_, true, .rep E_laws_RuleSet A p0⟩ :: ⟨_, true, .raw (.int .i64 (1048576 : Int))⟩ :: ⟨_, true, .raw (.int .i64 x2)⟩ :: ⟨_, true, .raw (.int .i64 x2)⟩ :: []) (tl := []) (by kernel_rfl) (by kernel_rfl) (by kernel_rfl) ?_ ?_
 ·exact
   Obls.p (fun R' w' hw hs hd => (of_load_box ((hO.fr hw).ok 0 _ rfl).1 ((hs 1 rfl).trans h1) (Fld.id _) rfl Tryd.isAgg40 Tryd.sizeOf40)) <|
   Obls.p (fun R' w' hw hs hd => of_move ((hs 3 rfl).trans h3)) <|
   Obls.p (fun R' w' hw hs hd => by have a0 : Rep E_laws_RuleSet A w' (R' 7) p0 := hd.g 0 rfl; have a1 : R' 8 = .int .i64 (1048576 : Int) := hd.g 1 rfl; exact of_call Tryd.call17 (M_laws_szRuleSet_ok (q3 rfl) (hA.fr hw.size) a0 a1)) <|
   Obls.p (fun R' w' hw hs hd => by have a0 : R' 9 = .int .i64 x2 := hd.g 0 rfl; exact of_assign a0) <|
   Obls.nil
 intro R w hw hs hF'
 replace h1 := (hs 1 rfl).trans h1
 have h3 : R 3 = .int .i64 x2 := hF' 3 _ _ rfl rfl rfl
 replace hO := hO.fr hw
 replace hA := hA.fr hw.size
 replace hF := hF.trans hw
 clear hs hF' hw
 refine seqR_nil ?_
 refine HT.seq ?_
 refine HT.seq ?_
 refine HT.text (l := ⟨_, true, .raw (.int .i64 x2)⟩ :: ⟨_, true, .raw (.bool (decide (x2 < (0 : Int))))⟩ :: []) (tl := []) (by kernel_rfl) (by kernel_rfl) (by kernel_rfl) ?_ ?_
 ·exact
   Obls.p (fun R' w' hw hs hd => of_move ((hs 3 rfl).trans h3)) <|
   Obls.p (fun R' w' hw hs hd => by have a0 : R' 10 = .int .i64 x2 := hd.g 0 rfl; exact of_lss a0 rfl) <|
   Obls.nil
 intro R w hw hs hF'
 replace h1 := (hs 1 rfl).trans h1
 have h11 : R 11 = .bool (decide (x2 < (0 : Int))) := hF' 1 _ _ rfl rfl rfl
 replace hO := hO.fr hw
 replace hA := hA.fr hw.size
 replace hF := hF.trans hw
 clear hs hF' hw
 refine seqR_nil ?_
 refine HT.cond (decide (x2 < (0 : Int))) h11 (fun c4 => ?_) (fun c4 => ?_)
 ·have hr := cnd_t c4 hr
  refine HT.seq ?_
  refine HT.text (l := ⟨_, true, .raw (.bool true)⟩ :: []) (tl := []) (by kernel_rfl) (by kernel_rfl) (by kernel_rfl) ?_ ?_
  ·exact
    Obls.p (fun R' w' hw hs hd => of_assign rfl) <|
    Obls.nil
  intro R w hw hs hF'
  have h2 : R 2 = .bool true := hF' 0 _ _ rfl rfl rfl
  replace hO := hO.fr hw
  replace hO : IniOK [] A w := hO.sub [] trivial
  replace hA := hA.fr hw.size
  replace hF := hF.trans hw
  clear hs hF' hw
  refine seqR_nil ?_
  refine HT.ret ?_
  obtain rfl := Option.some.inj hr
  exact ⟨.inr rfl, [R 2], ⟨rfl, trivial⟩, h2, hF⟩
 ·have hr := cnd_f c4 hr
  refine HT.skip ?_
  refine HT.seq ?_
  obtain ⟨x5, q6, hr⟩ := cl_some hr
  obtain ⟨x7, q8, hr⟩ := cl_some hr
  refine HT.text (l := ⟨_, true, .rep E_laws_RuleSet A p0⟩ :: ⟨_, true, .rep E_impl_RuleSet A x5⟩ :: ⟨_, true, .rep eStr A x7⟩ :: ⟨_, true, .rep eStr A x7⟩ :: []) (tl := []) (by kernel_rfl) (by kernel_rfl) (by kernel_rfl) ?_ ?_
  ·exact
    Obls.p (fun R' w' hw hs hd => (of_load_box ((hO.fr hw).ok 0 _ rfl).1 ((hs 1 rfl).trans h1) (Fld.id _) rfl Tryd.isAgg40 Tryd.sizeOf40)) <|
    Obls.p (fun R' w' hw hs hd => by have a0 : Rep E_laws_RuleSet A w' (R' 12) p0 := hd.g 0 rfl; exact of_call Tryd.call19 (M_laws_toRuleSet_okR (q6 rfl) (hA.fr hw.size) a0)) <|
    Obls.p (fun R' w' hw hs hd => by have a0 : Rep E_impl_RuleSet A w' (R' 13) x5 := hd.g 0 rfl; exact of_call Tryd.call18 (M_spec_FormatRules_ok (q8 rfl) (hA.fr hw.size) a0)) <|
    Obls.p (fun R' w' hw hs hd => by have a0 : Rep eStr A w' (R' 14) x7 := hd.g 0 rfl; exact of_assign a0) <|
    Obls.nil
  intro R w hw hs hF'
  replace h1 := (hs 1 rfl).trans h1
  obtain ⟨u9, h4, f_u9⟩ : ∃ u, R 4 = u ∧ Rep eStr A w u x7 := ⟨_, rfl, hF' 3 _ _ rfl rfl rfl⟩
  replace hO := hO.fr hw
  replace hA := hA.fr hw.size
  replace hF := hF.trans hw
  clear hs hF' hw
  refine seqR_nil ?_
  refine HT.seq ?_
  obtain ⟨x10, q11, hr⟩ := cl_some hr
  refine HT.textR [ob (.pointer (some ⟨b1_0, 0, none⟩)) (.box w0.heap.size 40 E_laws_RuleSet p0)] (⟨_, true, [], none, true, fun A => .rep E_laws_RuleSet A p0⟩ :: ⟨_, true, [], none, true, fun A => .rep E_impl_RuleSet A x10⟩ :: ⟨_, true, [], some (.box w0.heap.size 45 E_impl_RuleSet ([] : List T_impl_Rule)), true, fun A => .any⟩ :: ⟨_, true, [3], some (.box w0.heap.size 45 E_impl_RuleSet x10), false, fun A => .any⟩ :: []) (by kernel_rfl) (by kernel_rfl) (Wf.mk' (by kernel_rfl) (UAll.cons ust_rep (UAll.cons ust_rep (UAll.cons ust_any (UAll.cons ust_any (UAll.nil))))) (by kernel_rfl) (by kernel_rfl)) hO hA ?_ ?_
  ·exact
    OblsR.p (fun A' R' w' ho hd => (of_load_box (ho.rd 0 _ rfl rfl) ((ho.old 1 rfl).trans h1) (Fld.id _) rfl Tryd.isAgg40 Tryd.sizeOf40)) <|
    OblsR.p (fun A' R' w' ho hd => by have a0 : Rep E_laws_RuleSet A' w' (R' 15) p0 := hd.g 0 rfl; exact of_call Tryd.call19 (M_laws_toRuleSet_okR (q11 rfl) ho.av a0)) <|
    OblsR.cons (OblR.made _ rfl rfl rfl rfl fun A' R' w' ho hd => by exact made_alloc Tryd.zeroValue45 (fun A w => rep1_nil) (Nat.le_trans hF.size ho.ch.size)) <|
    OblsR.cons (OblR.took 3 _ _ rfl rfl rfl rfl rfl fun A' R' w' ho hd u hok hav hin hop hds => by have a1 : Rep E_impl_RuleSet A' w' (R' 16) x10 := hd.g 1 rfl; obtain ⟨b, hb, hB', hbx⟩ := hok; have hop' := hop _ _ rfl rfl rfl rfl; exact took_store a1 (hop'.symm.trans hb) hb ⟨b, hb, hB', hbx⟩ hav (FldS.id _) Tryd.sizeOf45 rfl) <|
    OblsR.nil
  intro done ρ σ A R w hdn hI
  replace h1 : R 1 = (.pointer (some ⟨b1_0, 0, none⟩)) := (hI.reg rfl).trans h1
  replace h4 : R 4 = u9 := (hI.reg rfl).trans h4
  have z12 := hI.inivR 0 rfl
  obtain ⟨b5_12, e_b5_12⟩ := hI.boxv hdn 4 rfl rfl
  have z14 := (hI.opnR hdn 4 3 rfl rfl rfl rfl rfl).symm.trans e_b5_12
  have h5 : R 5 = (.pointer (some ⟨b5_12, 0, none⟩)) := (hI.opvR hdn 3 2 rfl rfl rfl rfl rfl).symm.trans z14
  replace f_u9 := f_u9.stp hI.stp
  replace hAA := hI.low' hAA hA0 (hO.ge (⟨rfl, trivial⟩))
  replace hF : Fr w0 w := hF.tr hI.ch (hO.ge (⟨rfl, trivial⟩))
  replace hO : IniOK [ob (.pointer (some ⟨b1_0, 0, none⟩)) (.box w0.heap.size 40 E_laws_RuleSet p0), ob (.pointer (some ⟨b5_12, 0, none⟩)) (.box w0.heap.size 45 E_impl_RuleSet x10)] A w := hI.left hdn [(0, ob (.pointer (some ⟨b1_0, 0, none⟩)) (.box w0.heap.size 40 E_laws_RuleSet p0)), (4, ob (.pointer (some ⟨b5_12, 0, none⟩)) (.box w0.heap.size 45 E_impl_RuleSet x10))] ⟨rfl, rfl, z12, rfl, rfl, ⟨rfl, rfl, e_b5_12, rfl, rfl, trivial⟩⟩
  replace hA := hI.avok
  clear hI
  refine HT.seq ?_
  obtain ⟨x15, q16, hr⟩ := cl_some hr
  refine HT.text (l := ⟨_, true, .rep E_impl_RuleSet A x10⟩ :: ⟨_, true, .rep eStr A x15⟩ :: ⟨_, true, .rep eStr A x15⟩ :: []) (tl := []) (by kernel_rfl) (by kernel_rfl) (by kernel_rfl) ?_ ?_
  ·exact
    Obls.p (fun R' w' hw hs hd => (of_load_box ((hO.fr hw).ok 1 _ rfl).1 ((hs 5 rfl).trans h5) (Fld.id _) rfl Tryd.isAgg45 Tryd.sizeOf45)) <|
    Obls.p (fun R' w' hw hs hd => by have a0 : Rep E_impl_RuleSet A w' (R' 17) x10 := hd.g 0 rfl; exact of_call Tryd.call20 (M_impl_FormatRules_ok (q16 rfl) (hA.fr hw.size) (hG0.fr (hF.trans hw)) a0)) <|
    Obls.p (fun R' w' hw hs hd => by have a0 : Rep eStr A w' (R' 18) x15 := hd.g 0 rfl; exact of_assign a0) <|
    Obls.nil
  intro R w hw hs hF'
  replace h1 := (hs 1 rfl).trans h1
  replace h4 := (hs 4 rfl).trans h4
  replace h5 := (hs 5 rfl).trans h5
  obtain ⟨u17, h6, f_u17⟩ : ∃ u, R 6 = u ∧ Rep eStr A w u x15 := ⟨_, rfl, hF' 2 _ _ rfl rfl rfl⟩
  replace f_u9 := f_u9.fr hw
  replace hO := hO.fr hw
  replace hA := hA.fr hw.size
  replace hF := hF.trans hw
  clear hs hF' hw
  refine seqR_nil ?_
  refine HT.seq ?_
  refine HT.seq ?_
  refine HT.text (l := ⟨_, true, .raw u17⟩ :: ⟨_, true, .raw u9⟩ :: ⟨_, true, .raw (.bool (!(x15 == x7)))⟩ :: []) (tl := []) (by kernel_rfl) (by kernel_rfl) (by kernel_rfl) ?_ ?_
  ·exact
    Obls.p (fun R' w' hw hs hd => of_move ((hs 6 rfl).trans h6)) <|
    Obls.p (fun R' w' hw hs hd => of_move ((hs 4 rfl).trans h4)) <|
    Obls.p (fun R' w' hw hs hd => by have a0 : R' 19 = u17 := hd.g 0 rfl; have ra0 := (f_u17.fr hw).eq a0; have a1 : R' 20 = u9 := hd.g 1 rfl; have ra1 := (f_u9.fr hw).eq a1; exact of_sneq ra0 ra1) <|
    Obls.nil
  intro R w hw hs hF'
  replace h1 := (hs 1 rfl).trans h1
  replace h5 := (hs 5 rfl).trans h5
  have h21 : R 21 = .bool (!(x15 == x7)) := hF' 2 _ _ rfl rfl rfl
  replace hO := hO.fr hw
  replace hA := hA.fr hw.size
  replace hF := hF.trans hw
  clear hs hF' hw
  refine seqR_nil ?_
  refine HT.cond (!(x15 == x7)) h21 (fun c18 => ?_) (fun c18 => ?_)
  ·have hr := cnd_t c18 hr
   refine HT.seq ?_
   refine HT.text (l := ⟨_, true, .raw (.bool false)⟩ :: []) (tl := []) (by kernel_rfl) (by kernel_rfl) (by kernel_rfl) ?_ ?_
   ·exact
     Obls.p (fun R' w' hw hs hd => of_assign rfl) <|
     Obls.nil
   intro R w hw hs hF'
   have h2 : R 2 = .bool false := hF' 0 _ _ rfl rfl rfl
   replace hO := hO.fr hw
   replace hO : IniOK [] A w := hO.sub [] trivial
   replace hA := hA.fr hw.size
   replace hF := hF.trans hw
   clear hs hF' hw
   refine seqR_nil ?_
   refine HT.ret ?_
   obtain rfl := Option.some.inj hr
   exact ⟨.inr rfl, [R 2], ⟨rfl, trivial⟩, h2, hF⟩
  ·have hr := cnd_f c18 hr
   refine HT.skip ?_
   refine HT.seq ?_
   refine HT.seq ?_
   obtain ⟨x19, q20, hr⟩ := cl_some hr
   obtain ⟨x21, q22, hr⟩ := cl_some hr
   refine HT.draw (by kernel_rfl) (l := ⟨_, true, .rep E_impl_RuleSet A x10⟩ :: ⟨_, true, .rep E_laws_RuleSet A p0⟩ :: ⟨_, true, .rep E_impl_RuleSet A x19⟩ :: ⟨_, true, .raw (.bool x21)⟩ :: ⟨_, true, .raw (.bool (!x21))⟩ :: []) (tl := []) (by kernel_rfl) (by kernel_rfl) (by kernel_rfl) (by kernel_rfl) ?_ ?_
   ·exact
     Obls.p (fun R' w' hw hs hd => (of_load_box ((hO.fr hw).ok 1 _ rfl).1 ((hs 5 rfl).trans h5) (Fld.id _) rfl Tryd.isAgg45 Tryd.sizeOf45)) <|
     Obls.p (fun R' w' hw hs hd => (of_load_box ((hO.fr hw).ok 0 _ rfl).1 ((hs 1 rfl).trans h1) (Fld.id _) rfl Tryd.isAgg40 Tryd.sizeOf40)) <|
     Obls.p (fun R' w' hw hs hd => by have a0 : Rep E_laws_RuleSet A w' (R' 23) p0 := hd.g 0 rfl; exact of_call Tryd.call19 (M_laws_toRuleSet_okR (q20 rfl) (hA.fr hw.size) a0)) <|
     Obls.p (fun R' w' hw hs hd => by have a0 : Rep E_impl_RuleSet A w' (R' 22) x10 := hd.g 0 rfl; have a1 : Rep E_impl_RuleSet A w' (R' 24) x19 := hd.g 1 rfl; exact of_call Tryd.call21 (M_laws_eqRuleSet_ok (q22 rfl) (hA.fr hw.size) a0 a1)) <|
     Obls.p (fun R' w' hw hs hd => by have a0 : R' 25 = .bool x21 := hd.g 0 rfl; exact of_not a0) <|
     Obls.nil
   intro R w hw hs hF'
   have h26 : R 26 = .bool (!x21) := hF' 4 _ _ rfl rfl rfl
   replace hO := hO.fr hw
   replace hO : IniOK [] A w := hO.sub [] trivial
   replace hA := hA.fr hw.size
   replace hF := hF.trans hw
   clear hs hF' hw
   refine seqR_nil ?_
   refine HT.cond (!x21) h26 (fun c23 => ?_) (fun c23 => ?_)
   ·have hr := cnd_t c23 hr
    refine HT.seq ?_
    refine HT.text (l := ⟨_, true, .raw (.bool false)⟩ :: []) (tl := []) (by kernel_rfl) (by kernel_rfl) (by kernel_rfl) ?_ ?_
    ·exact
      Obls.p (fun R' w' hw hs hd => of_assign rfl) <|
      Obls.nil
    intro R w hw hs hF'
    have h2 : R 2 = .bool false := hF' 0 _ _ rfl rfl rfl
    replace hO := hO.fr hw
    replace hA := hA.fr hw.size
    replace hF := hF.trans hw
    clear hs hF' hw
    refine seqR_nil ?_
    refine HT.ret ?_
    obtain rfl := Option.some.inj hr
    exact ⟨.inr rfl, [R 2], ⟨rfl, trivial⟩, h2, hF⟩
   ·have hr := cnd_f c23 hr
    refine HT.skip ?_
    refine HT.seq ?_
    refine HT.text (l := ⟨_, true, .raw (.bool true)⟩ :: []) (tl := []) (by kernel_rfl) (by kernel_rfl) (by kernel_rfl) ?_ ?_
    ·exact
      Obls.p (fun R' w' hw hs hd => of_assign rfl) <|
      Obls.nil
    intro R w hw hs hF'
    have h2 : R 2 = .bool true := hF' 0 _ _ rfl rfl rfl
    replace hO := hO.fr hw
    replace hA := hA.fr hw.size
    replace hF := hF.trans hw
    clear hs hF' hw
    refine seqR_nil ?_
    refine HT.ret ?_
    obtain rfl := Option.some.inj hr
    exact ⟨.inr rfl, [R 2], ⟨rfl, trivial⟩, h2, hF⟩
end Go.Proofs.YtjdnomcpepbdaaaDoor
