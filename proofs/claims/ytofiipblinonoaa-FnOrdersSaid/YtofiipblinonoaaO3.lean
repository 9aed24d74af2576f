/- Printed by dec.py: plain functions and the proofs that the code computes them. No statement of the seat is proved here. -/
import Derived.Test.YtofiipblinonoaaO2
namespace Go.Proofs.Ytofiipblinonoaa
open Go.RowKit
set_option linter.unusedVariables false
set_option maxRecDepth 100000
set_option maxHeartbeats 4000000
def M_spec_EqualTokens_L0 (fu : Nat) (p0 : List (List UInt8)) (p1 : List (List UInt8)) : Nat → Int → Option (Ex Bool Unit)
 | 0, _ => none
 | k + 1, y5 =>
  bif (decide (y5 < (p0.length : Int))) then (
   ck (inR y5 p0.length) <|
   ck (inR y5 p1.length) <|
   bif (!((gtD p0 y5) == (gtD p1 y5))) then (
    some (Ex.ret false)
   ) else (
    ck (i64B (y5 + (1 : Int))) <|
    M_spec_EqualTokens_L0 fu p0 p1 k (y5 + (1 : Int))
   )
  ) else (
   some (Ex.go ())
  )
def M_spec_EqualTokens (fu : Nat) (p0 : List (List UInt8)) (p1 : List (List UInt8)) : Option Bool :=
 bif ((p0.length : Int) != (p1.length : Int)) then (
  some false
 ) else (
  cl true (M_spec_EqualTokens_L0 fu p0 p1 fu (0 : Int)) fun rl2 =>
  exM rl2 (fun r => some r) fun s4 =>
  some true
 )
theorem M_spec_EqualTokens_ok {fu : Nat} {A : Av} {p0 : List (List UInt8)} {p1 : List (List UInt8)} {r : Bool} (hr : M_spec_EqualTokens fu p0 p1 = some r) {w : World} {v0 : Value} {v1 : Value} (hA : AvOK A w) (h0 : Rep (eSl eStr) A w v0 p0) (h1 : Rep (eSl eStr) A w v1 p1) :
  Calls Try.prog 35 #[v0, v1] w fun e w' => ∃ v, e = .returned v ∧ (v = .bool r ∧ Fr w w') := by
 unfold M_spec_EqualTokens at hr
 obtain ⟨w0, hw0⟩ : ∃ w0, w0 = w := ⟨_, rfl⟩
 have hF : Fr w0 w := hw0 ▸ Fr.refl _
 rw [show Fr w = Fr w0 from hw0 ▸ rfl]
 clear hw0
 refine calls_of_HT2 [.tmp 4] Try.func35 Try.ntmps35 (by decide) rfl rfl (Nat.le_of_ble_eq_true rfl) ?_
 intro R hR
 have f_v0 := h0
 replace h0 : R 0 = v0 := hR 0 _ rfl
 have f_v1 := h1
 replace h1 : R 1 = v1 := hR 1 _ rfl
 clear hR
 refine HT.seq ?_
 refine HT.text (l := ⟨_, true, .raw (.bool false)⟩ :: []) (tl := []) (by kernel_rfl) (by kernel_rfl) (by kernel_rfl) ?_ ?_
 ·exact
   Obls.p (fun R' w' hw hs hd => of_assign rfl) <|
   Obls.nil
 intro R w hw hs hF'
 replace h0 := (hs 0 rfl).trans h0
 replace h1 := (hs 1 rfl).trans h1
 replace f_v0 := f_v0.fr hw
 replace f_v1 := f_v1.fr hw
 replace hA := hA.fr hw.size
 replace hF := hF.trans hw
 clear hs hF' hw
 refine seqR_nil ?_
 refine HT.seq ?_
 refine HT.seq ?_
 refine HT.text (l := ⟨_, true, .raw v0⟩ :: ⟨_, true, .raw (.int .i64 (p0.length : Int))⟩ :: ⟨_, true, .raw v1⟩ :: ⟨_, true, .raw (.int .i64 (p1.length : Int))⟩ :: ⟨_, true, .raw (.bool ((p0.length : Int) != (p1.length : Int)))⟩ :: []) (tl := []) (by kernel_rfl) (by kernel_rfl) (by kernel_rfl) ?_ ?_
 ·exact
   Obls.p (fun R' w' hw hs hd => of_move ((hs 0 rfl).trans h0)) <|
   Obls.p (fun R' w' hw hs hd => by have a0 : R' 6 = v0 := hd.g 0 rfl; have ra0 := (f_v0.fr hw).eq a0; exact of_len_sl (aT := #[]) ra0 Try.underlying22) <|
   Obls.p (fun R' w' hw hs hd => of_move ((hs 1 rfl).trans h1)) <|
   Obls.p (fun R' w' hw hs hd => by have a0 : R' 8 = v1 := hd.g 0 rfl; have ra0 := (f_v1.fr hw).eq a0; exact of_len_sl (aT := #[]) ra0 Try.underlying22) <|
   Obls.p (fun R' w' hw hs hd => by have a0 : R' 7 = .int .i64 (p0.length : Int) := hd.g 0 rfl; have a1 : R' 9 = .int .i64 (p1.length : Int) := hd.g 1 rfl; exact of_neq a0 a1) <|
   Obls.nil
 intro R w hw hs hF'
 replace h0 := (hs 0 rfl).trans h0
 replace h1 := (hs 1 rfl).trans h1
 have h10 : R 10 = .bool ((p0.length : Int) != (p1.length : Int)) := hF' 4 _ _ rfl rfl rfl
 replace f_v0 := f_v0.fr hw
 replace f_v1 := f_v1.fr hw
 replace hA := hA.fr hw.size
 replace hF := hF.trans hw
 clear hs hF' hw
 refine seqR_nil ?_
 refine HT.cond ((p0.length : Int) != (p1.length : Int)) h10 (fun c1 => ?_) (fun c1 => ?_)
 ·have hr := cnd_t c1 hr
  refine HT.seq ?_
  refine HT.text (l := ⟨_, true, .raw (.bool false)⟩ :: []) (tl := []) (by kernel_rfl) (by kernel_rfl) (by kernel_rfl) ?_ ?_
  ·exact
    Obls.p (fun R' w' hw hs hd => of_assign rfl) <|
    Obls.nil
  intro R w hw hs hF'
  have h4 : R 4 = .bool false := hF' 0 _ _ rfl rfl rfl
  replace hA := hA.fr hw.size
  replace hF := hF.trans hw
  clear hs hF' hw
  refine seqR_nil ?_
  refine HT.ret ?_
  obtain rfl := Option.some.inj hr
  exact ⟨.inr rfl, [R 4], ⟨rfl, trivial⟩, h4, hF⟩
 ·have hr := cnd_f c1 hr
  refine HT.skip ?_
  refine HT.seq ?_
  refine HT.seq ?_
  refine HT.text (l := ⟨_, true, .raw (.int .i64 (0 : Int))⟩ :: []) (tl := []) (by kernel_rfl) (by kernel_rfl) (by kernel_rfl) ?_ ?_
  ·exact
    Obls.p (fun R' w' hw hs hd => of_assign rfl) <|
    Obls.nil
  intro R w hw hs hF'
  replace h0 := (hs 0 rfl).trans h0
  replace h1 := (hs 1 rfl).trans h1
  have h5 : R 5 = .int .i64 (0 : Int) := hF' 0 _ _ rfl rfl rfl
  replace f_v0 := f_v0.fr hw
  replace f_v1 := f_v1.fr hw
  replace hA := hA.fr hw.size
  replace hF := hF.trans hw
  clear hs hF' hw
  refine seqR_nil ?_
  obtain ⟨rl2, q3, hr⟩ := cl_some hr
  replace q3 := q3 rfl
  refine HT.cut0 (fun R w => ∃ (s4 : Unit), rl2 = Ex.go s4 ∧ AvOK A w ∧ Fr w0 w) ?_ ?_
  ·refine HT.block ?_
   refine HT.loop (fun k R w => ∃ (y5 : Int), M_spec_EqualTokens_L0 fu p0 p1 k y5 = some rl2 ∧ AvOK A w ∧ Fr w0 w ∧ R 0 = v0 ∧ R 1 = v1 ∧ R 5 = .int .i64 y5 ∧ Rep (eSl eStr) A w v0 p0 ∧ Rep (eSl eStr) A w v1 p1) fu ⟨_, q3, hA, hF, h0, h1, h5, f_v0, f_v1⟩ ?_
   have hr0 := hr; clear hr q3
   rintro k R w ⟨y5, hr, hA, hF, h0, h1, h5, f_v0, f_v1⟩
   rcases k with _ | k
   ·cases (show none = some _ from hr)
   rw [M_spec_EqualTokens_L0] at hr
   refine HT.seq ?_
   refine HT.seq ?_
   refine HT.text (l := ⟨_, true, .raw (.int .i64 y5)⟩ :: ⟨_, true, .raw v0⟩ :: ⟨_, true, .raw (.int .i64 (p0.length : Int))⟩ :: ⟨_, true, .raw (.bool (decide (y5 < (p0.length : Int))))⟩ :: []) (tl := []) (by kernel_rfl) (by kernel_rfl) (by kernel_rfl) ?_ ?_
   ·exact
     Obls.p (fun R' w' hw hs hd => of_move ((hs 5 rfl).trans h5)) <|
     Obls.p (fun R' w' hw hs hd => of_move ((hs 0 rfl).trans h0)) <|
     Obls.p (fun R' w' hw hs hd => by have a0 : R' 12 = v0 := hd.g 0 rfl; have ra0 := (f_v0.fr hw).eq a0; exact of_len_sl (aT := #[]) ra0 Try.underlying22) <|
     Obls.p (fun R' w' hw hs hd => by have a0 : R' 11 = .int .i64 y5 := hd.g 0 rfl; have a1 : R' 13 = .int .i64 (p0.length : Int) := hd.g 1 rfl; exact of_lss a0 a1) <|
     Obls.nil
   intro R w hw hs hF'
   replace h0 := (hs 0 rfl).trans h0
   replace h1 := (hs 1 rfl).trans h1
   replace h5 := (hs 5 rfl).trans h5
   have h14 : R 14 = .bool (decide (y5 < (p0.length : Int))) := hF' 3 _ _ rfl rfl rfl
   replace f_v0 := f_v0.fr hw
   replace f_v1 := f_v1.fr hw
   replace hA := hA.fr hw.size
   replace hF := hF.trans hw
   clear hs hF' hw
   refine seqR_nil ?_
   refine HT.cond (decide (y5 < (p0.length : Int))) h14 (fun c6 => ?_) (fun c6 => ?_)
   ·have hr := cnd_t c6 hr
    refine HT.skip ?_
    refine HT.seq ?_
    refine HT.block ?_
    refine HT.seq ?_
    obtain ⟨e7, hr⟩ := ck_some hr
    obtain ⟨e8, hr⟩ := ck_some hr
    refine HT.draw (by kernel_rfl) (l := ⟨_, true, .raw v0⟩ :: ⟨_, true, .raw (.int .i64 y5)⟩ :: ⟨_, true, .qtr eStr A (gtD p0 y5)⟩ :: ⟨_, true, .rep eStr A (gtD p0 y5)⟩ :: ⟨_, true, .raw v1⟩ :: ⟨_, true, .raw (.int .i64 y5)⟩ :: ⟨_, true, .qtr eStr A (gtD p1 y5)⟩ :: ⟨_, true, .rep eStr A (gtD p1 y5)⟩ :: ⟨_, true, .raw (.bool (!((gtD p0 y5) == (gtD p1 y5))))⟩ :: []) (tl := []) (by kernel_rfl) (by kernel_rfl) (by kernel_rfl) (by kernel_rfl) ?_ ?_
    ·exact
      Obls.p (fun R' w' hw hs hd => of_move ((hs 0 rfl).trans h0)) <|
      Obls.p (fun R' w' hw hs hd => of_move ((hs 5 rfl).trans h5)) <|
      Obls.p (fun R' w' hw hs hd => by have a0 : R' 17 = v0 := hd.g 0 rfl; have a1 : R' 18 = .int .i64 y5 := hd.g 1 rfl; have ra0 := (f_v0.fr hw).eq a0; exact of_indexAddr ra0 a1 Try.underlying22 Try.sizeOf9 e7) <|
      Obls.p (fun R' w' hw hs hd => by have a0 : QRep eStr A w' (R' 19) (gtD p0 y5) := hd.g 0 rfl; exact (of_load a0.ptr Try.isAgg9 Try.sizeOf9)) <|
      Obls.p (fun R' w' hw hs hd => of_move ((hs 1 rfl).trans h1)) <|
      Obls.p (fun R' w' hw hs hd => of_move ((hs 5 rfl).trans h5)) <|
      Obls.p (fun R' w' hw hs hd => by have a0 : R' 21 = v1 := hd.g 0 rfl; have a1 : R' 22 = .int .i64 y5 := hd.g 1 rfl; have ra0 := (f_v1.fr hw).eq a0; exact of_indexAddr ra0 a1 Try.underlying22 Try.sizeOf9 e8) <|
      Obls.p (fun R' w' hw hs hd => by have a0 : QRep eStr A w' (R' 23) (gtD p1 y5) := hd.g 0 rfl; exact (of_load a0.ptr Try.isAgg9 Try.sizeOf9)) <|
      Obls.p (fun R' w' hw hs hd => by have a0 : Rep eStr A w' (R' 20) (gtD p0 y5) := hd.g 0 rfl; have a1 : Rep eStr A w' (R' 24) (gtD p1 y5) := hd.g 1 rfl; exact of_sneq a0 a1) <|
      Obls.nil
    intro R w hw hs hF'
    replace h0 := (hs 0 rfl).trans h0
    replace h1 := (hs 1 rfl).trans h1
    replace h5 := (hs 5 rfl).trans h5
    have h25 : R 25 = .bool (!((gtD p0 y5) == (gtD p1 y5))) := hF' 8 _ _ rfl rfl rfl
    replace f_v0 := f_v0.fr hw
    replace f_v1 := f_v1.fr hw
    replace hA := hA.fr hw.size
    replace hF := hF.trans hw
    clear hs hF' hw
    refine seqR_nil ?_
    refine HT.cond (!((gtD p0 y5) == (gtD p1 y5))) h25 (fun c9 => ?_) (fun c9 => ?_)
    ·have hr := cnd_t c9 hr
     refine HT.seq ?_
     refine HT.text (l := ⟨_, true, .raw (.bool false)⟩ :: []) (tl := []) (by kernel_rfl) (by kernel_rfl) (by kernel_rfl) ?_ ?_
     ·exact
       Obls.p (fun R' w' hw hs hd => of_assign rfl) <|
       Obls.nil
     intro R w hw hs hF'
     have h4 : R 4 = .bool false := hF' 0 _ _ rfl rfl rfl
     replace hA := hA.fr hw.size
     replace hF := hF.trans hw
     clear hs hF' hw
     refine seqR_nil ?_
     refine HT.ret ?_
     obtain rfl := Option.some.inj hr
     have hr := hr0
     replace hr : some _ = some _ := hr
     obtain rfl := Option.some.inj hr
     exact ⟨.inr rfl, [R 4], ⟨rfl, trivial⟩, h4, hF⟩
    ·have hr := cnd_f c9 hr
     refine HT.skip ?_
     obtain ⟨e10, hr⟩ := ck_some hr
     refine HT.text (l := ⟨_, true, .raw (.int .i64 y5)⟩ :: ⟨_, true, .raw (.int .i64 (y5 + (1 : Int)))⟩ :: ⟨_, true, .raw (.int .i64 (y5 + (1 : Int)))⟩ :: []) (tl := []) (by kernel_rfl) (by kernel_rfl) (by kernel_rfl) ?_ ?_
     ·exact
       Obls.p (fun R' w' hw hs hd => of_move ((hs 5 rfl).trans h5)) <|
       Obls.p (fun R' w' hw hs hd => by have a0 : R' 15 = .int .i64 y5 := hd.g 0 rfl; exact of_add a0 rfl e10) <|
       Obls.p (fun R' w' hw hs hd => by have a0 : R' 16 = .int .i64 (y5 + (1 : Int)) := hd.g 0 rfl; exact of_assign a0) <|
       Obls.nil
     intro R w hw hs hF'
     replace h0 := (hs 0 rfl).trans h0
     replace h1 := (hs 1 rfl).trans h1
     have h5 : R 5 = .int .i64 (y5 + (1 : Int)) := hF' 2 _ _ rfl rfl rfl
     replace f_v0 := f_v0.fr hw
     replace f_v1 := f_v1.fr hw
     replace hA := hA.fr hw.size
     replace hF := hF.trans hw
     clear hs hF' hw
     refine seqR_nil ?_
     exact Exists.intro k (And.intro (Nat.lt_succ_self k) ⟨_, hr, hA, hF, h0, h1, h5, f_v0, f_v1⟩)
   ·have hr := cnd_f c6 hr
    refine HT.exit ?_
    obtain rfl := Option.some.inj hr
    exact Exists.intro _ ⟨rfl, hA, hF⟩
  rintro R w ⟨s4, rfl, hA, hF⟩
  have hr := exM_go hr
  refine HT.seq ?_
  refine HT.text (l := ⟨_, true, .raw (.bool true)⟩ :: []) (tl := []) (by kernel_rfl) (by kernel_rfl) (by kernel_rfl) ?_ ?_
  ·exact
    Obls.p (fun R' w' hw hs hd => of_assign rfl) <|
    Obls.nil
  intro R w hw hs hF'
  have h4 : R 4 = .bool true := hF' 0 _ _ rfl rfl rfl
  replace hA := hA.fr hw.size
  replace hF := hF.trans hw
  clear hs hF' hw
  refine seqR_nil ?_
  refine HT.ret ?_
  obtain rfl := Option.some.inj hr
  exact ⟨.inr rfl, [R 4], ⟨rfl, trivial⟩, h4, hF⟩
def M_spec_DrawCountTokens (fu : Nat) (p0 : List Int) : Option (List (List (List UInt8))) :=
 cl true (M_spec_l1New fu p0) fun x1 =>
 cl true (M_spec_l11Sets fu x1) fun x6 =>
 cl true (M_spec_l1Once fu x6.2 (8 : Int)) fun x13 =>
 bif x13.1 then (
  ck (lenOK (x6.1.length + ([([([98] : List UInt8), ([97] : List UInt8), ([98] : List UInt8)] : List (List UInt8))] : List (List (List UInt8))).length)) <|
  some (x6.1 ++ ([([([98] : List UInt8), ([97] : List UInt8), ([98] : List UInt8)] : List (List UInt8))] : List (List (List UInt8))))
 ) else (
  some x6.1
 )
theorem M_spec_DrawCountTokens_ok {fu : Nat} {A0 : Av} {p0 : List Int} {r : List (List (List UInt8))} (hr : M_spec_DrawCountTokens fu p0 = some r) {w : World} {v0 : Value} (hA : AvOK A0 w) (h0 : Rep (eSl (eInt .u8)) A0 w v0 p0) :
  Calls Try.prog 38 #[v0] w fun e w' => ∃ v, e = .returned v ∧ ((Res.vec w.heap.size 22 (eSl eStr) r).ok (addA A0 v) v w' ∧ Fr w w') := by
 unfold M_spec_DrawCountTokens at hr
 obtain ⟨w0, hw0⟩ : ∃ w0, w0 = w := ⟨_, rfl⟩
 have hF : Fr w0 w := hw0 ▸ Fr.refl _
 have hA0 : ∀ b o, A0 b o → b < w0.heap.size := fun b o h => hw0 ▸ hA b o h
 have hA00 : AvOK A0 w0 := hA0
 rw [show w.heap.size = w0.heap.size from hw0 ▸ rfl]
 rw [show Fr w = Fr w0 from hw0 ▸ rfl]
 clear hw0
 obtain ⟨A, hAe⟩ : ∃ A, A = A0 := ⟨_, rfl⟩
 have hAA : ∀ b o, A0 b o → A b o := fun b o h => hAe ▸ h
 replace hA : AvOK A w := hAe ▸ hA
 have hO : IniOK [] A w := IniOK.nil
 refine calls_of_HT2 [.tmp 2] Try.func38 Try.ntmps38 (by decide) rfl rfl (Nat.le_of_ble_eq_true rfl) ?_
 intro R hR
 have f_v0 : Rep (eSl (eInt .u8)) A w v0 p0 := hAe ▸ h0
 replace h0 : R 0 = v0 := hR 0 _ rfl
 clear hR hAe
 refine HT.seq ?_
 refine HT.text (l := ⟨_, true, .any⟩ :: []) (tl := []) (by kernel_rfl) (by kernel_rfl) (by kernel_rfl) ?_ ?_
 ·exact
   Obls.p (fun R' w' hw hs hd => of_assign trivial) <|
   Obls.nil
 intro R w hw hs hF'
 replace h0 := (hs 0 rfl).trans h0
 replace f_v0 := f_v0.fr hw
 replace hO := hO.fr hw
 replace hA := hA.fr hw.size
 replace hF := hF.trans hw
 clear hs hF' hw
 refine seqR_nil ?_
 refine HT.seq ?_
 refine SG.of ?_
 refine SG.textR [] (⟨_, true, [], none, true, fun A => .raw v0⟩ :: []) 1 rfl rfl rfl (by kernel_rfl) (by kernel_rfl) (Wf.mk' (by kernel_rfl) (UAll.cons ust_raw (UAll.nil)) (by kernel_rfl) (by kernel_rfl)) hO hA (trivial) ?_ ?_
 ·exact
   OblsR.p (fun A' R' w' ho hd => of_move ((ho.old 0 rfl).trans h0)) <|
   OblsR.nil
 intro done ρ σ A R w hdn hI
 have h5 : R 5 = v0 := hI.fact hdn (i := 0) rfl rfl rfl
 replace f_v0 := f_v0.stp hI.stp
 replace hAA := hI.low' hAA hA0 (hO.ge (trivial))
 replace hF : Fr w0 w := hF.tr hI.ch (hO.ge (trivial))
 replace hO : IniOK [] A w := hI.left hdn [] trivial
 replace hA := hI.avok
 clear hI
 obtain ⟨x1, q2, hr⟩ := cl_some hr
 have hFz : w0.heap.size ≤ w.heap.size := hF.size
 refine SG.op 6 rfl rfl rfl rfl (call_run Try.call62 (M_spec_l1New_ok (q2 rfl) hA (f_v0.eq h5))) ?_
 rintro v_ w ⟨b3, A, hG1, hv⟩ R hs hd
 obtain ⟨hO2, hst⟩ := GPost.next0 hO hA hG1
 replace hO := hO2
 replace hA := hG1.avok
 replace hAA : ∀ b o, A0 b o → A b o := fun b o h => hG1.low b o (hAA b o h)
 replace hF : Fr w0 w := hF.trans hG1.ch.no
 replace hO := hO.reX (B' := w0.heap.size) 0 rfl hFz
 replace hO : IniOK [ob (.pointer (some ⟨b3, 0, none⟩)) (.box w0.heap.size 108 E_spec_l1Cur x1)] A w := hO
 replace h5 := (hs 5 rfl).trans h5
 replace f_v0 := f_v0.stp hst
 have h6 : R 6 = (.pointer (some ⟨b3, 0, none⟩)) := hd.trans hv
 clear hFz hG1 hv hs hd
 refine SG.textR [ob (.pointer (some ⟨b3, 0, none⟩)) (.box w0.heap.size 108 E_spec_l1Cur x1)] (⟨_, true, [], none, true, fun A => .raw v0⟩ :: ⟨_, true, [], none, true, fun A => .raw (.pointer (some ⟨b3, 0, none⟩))⟩ :: ⟨_, true, [], none, true, fun A => .raw (.pointer (some ⟨b3, 0, none⟩))⟩ :: []) 3 rfl rfl rfl (by kernel_rfl) (by kernel_rfl) (Wf.mk' (by kernel_rfl) (UAll.cons ust_raw (UAll.cons ust_raw (UAll.cons ust_raw (UAll.nil)))) (by kernel_rfl) (by kernel_rfl)) hO hA (⟨⟨rfl, rfl, rfl, h5⟩, ⟨⟨rfl, rfl, rfl, h6⟩, trivial⟩⟩) ?_ ?_
 ·exact
   OblsR.p (fun A' R' w' ho hd => by have a0 : R' 6 = (.pointer (some ⟨b3, 0, none⟩)) := hd.g 0 rfl; exact of_assign a0) <|
   OblsR.nil
 intro done ρ σ A R w hdn hI
 have z4 := hI.inivR 0 rfl
 have h3 : R 3 = (.pointer (some ⟨b3, 0, none⟩)) := hI.fact hdn (i := 2) rfl rfl rfl
 replace hAA := hI.low' hAA hA0 (hO.ge (⟨rfl, trivial⟩))
 replace hF : Fr w0 w := hF.tr hI.ch (hO.ge (⟨rfl, trivial⟩))
 replace hO : IniOK [ob (.pointer (some ⟨b3, 0, none⟩)) (.box w0.heap.size 108 E_spec_l1Cur x1)] A w := hI.left hdn [(0, ob (.pointer (some ⟨b3, 0, none⟩)) (.box w0.heap.size 108 E_spec_l1Cur x1))] ⟨rfl, rfl, z4, rfl, rfl, trivial⟩
 replace hA := hI.avok
 clear hI
 refine SG.fin rfl ?_
 refine HT.seq ?_
 refine SG.of ?_
 refine SG.textR [ob (.pointer (some ⟨b3, 0, none⟩)) (.box w0.heap.size 108 E_spec_l1Cur x1)] (⟨_, true, [], none, true, fun A => .raw (.pointer (some ⟨b3, 0, none⟩))⟩ :: []) 1 rfl rfl rfl (by kernel_rfl) (by kernel_rfl) (Wf.mk' (by kernel_rfl) (UAll.cons ust_raw (UAll.nil)) (by kernel_rfl) (by kernel_rfl)) hO hA (trivial) ?_ ?_
 ·exact
   OblsR.p (fun A' R' w' ho hd => of_move ((ho.old 3 rfl).trans h3)) <|
   OblsR.nil
 intro done ρ σ A R w hdn hI
 replace h3 : R 3 = (.pointer (some ⟨b3, 0, none⟩)) := (hI.reg rfl).trans h3
 have z5 := hI.inivR 0 rfl
 have h7 : R 7 = (.pointer (some ⟨b3, 0, none⟩)) := hI.fact hdn (i := 0) rfl rfl rfl
 replace hAA := hI.low' hAA hA0 (hO.ge (⟨rfl, trivial⟩))
 replace hF : Fr w0 w := hF.tr hI.ch (hO.ge (⟨rfl, trivial⟩))
 replace hO : IniOK [ob (.pointer (some ⟨b3, 0, none⟩)) (.box w0.heap.size 108 E_spec_l1Cur x1)] A w := hI.left hdn [(0, ob (.pointer (some ⟨b3, 0, none⟩)) (.box w0.heap.size 108 E_spec_l1Cur x1))] ⟨rfl, rfl, z5, rfl, rfl, trivial⟩
 replace hA := hI.avok
 clear hI
 obtain ⟨x6, q7, hr⟩ := cl_some hr
 have hFz : w0.heap.size ≤ w.heap.size := hF.size
 refine SG.op 8 rfl rfl rfl rfl (call_run Try.call80 (M_spec_l11Sets_ok (q7 rfl) hA h7 (hO.sub [(0, ob (.pointer (some ⟨b3, 0, none⟩)) (.box w0.heap.size 108 E_spec_l1Cur x1))] ⟨rfl, rfl, trivial⟩))) ?_
 rintro v_ w ⟨u8, A, hG1, hv⟩ R hs hd
 have hst := stp_call hA hG1 (hO.ok 0 _ rfl).2
 replace hAA : ∀ b o, A0 b o → A b o := low_call hAA hA0 (hO.ge (⟨rfl, trivial⟩)) 0 rfl hG1
 replace hF : Fr w0 w := hF.tr hG1.ch (fun k hk => (hO.ge (⟨rfl, trivial⟩)) k ⟨0, _, rfl, hk⟩)
 replace hO := GPost.next hO hA 0 rfl hG1
 replace hA := hG1.avok
 replace hO := hO.reV (B' := w0.heap.size) 1 rfl hFz
 replace hO : IniOK [ob (.pointer (some ⟨b3, 0, none⟩)) (.box w0.heap.size 108 E_spec_l1Cur x6.2), ob u8 (.vec w0.heap.size 22 (eSl eStr) x6.1)] A w := hO
 replace h3 := (hs 3 rfl).trans h3
 replace h7 := (hs 7 rfl).trans h7
 have h8 : R 8 = u8 := hd.trans hv
 clear hFz hG1 hv hs hd
 refine SG.textR [ob (.pointer (some ⟨b3, 0, none⟩)) (.box w0.heap.size 108 E_spec_l1Cur x6.2), ob u8 (.vec w0.heap.size 22 (eSl eStr) x6.1)] (⟨_, true, [], none, true, fun A => .raw (.pointer (some ⟨b3, 0, none⟩))⟩ :: ⟨_, true, [], none, true, fun A => .raw u8⟩ :: ⟨_, true, [], none, true, fun A => .raw u8⟩ :: []) 3 rfl rfl rfl (by kernel_rfl) (by kernel_rfl) (Wf.mk' (by kernel_rfl) (UAll.cons ust_raw (UAll.cons ust_raw (UAll.cons ust_raw (UAll.nil)))) (by kernel_rfl) (by kernel_rfl)) hO hA (⟨⟨rfl, rfl, rfl, h7⟩, ⟨⟨rfl, rfl, rfl, h8⟩, trivial⟩⟩) ?_ ?_
 ·exact
   OblsR.p (fun A' R' w' ho hd => by have a0 : R' 8 = u8 := hd.g 0 rfl; exact of_assign a0) <|
   OblsR.nil
 intro done ρ σ A R w hdn hI
 replace h3 : R 3 = (.pointer (some ⟨b3, 0, none⟩)) := (hI.reg rfl).trans h3
 have z9 := hI.inivR 0 rfl
 have z10 := hI.inivR 1 rfl
 have h4 : R 4 = u8 := hI.fact hdn (i := 2) rfl rfl rfl
 replace hAA := hI.low' hAA hA0 (hO.ge (⟨rfl, ⟨rfl, trivial⟩⟩))
 replace hF : Fr w0 w := hF.tr hI.ch (hO.ge (⟨rfl, ⟨rfl, trivial⟩⟩))
 replace hO : IniOK [ob (.pointer (some ⟨b3, 0, none⟩)) (.box w0.heap.size 108 E_spec_l1Cur x6.2), ob u8 (.vec w0.heap.size 22 (eSl eStr) x6.1)] A w := hI.left hdn [(0, ob (.pointer (some ⟨b3, 0, none⟩)) (.box w0.heap.size 108 E_spec_l1Cur x6.2)), (1, ob u8 (.vec w0.heap.size 22 (eSl eStr) x6.1))] ⟨rfl, rfl, z9, rfl, rfl, ⟨rfl, rfl, z10, rfl, rfl, trivial⟩⟩
 replace hA := hI.avok
 clear hI
 refine SG.fin rfl ?_
 refine HT.seq ?_
 refine HT.seq ?_
 refine SG.of ?_
 refine SG.textR [ob (.pointer (some ⟨b3, 0, none⟩)) (.box w0.heap.size 108 E_spec_l1Cur x6.2), ob u8 (.vec w0.heap.size 22 (eSl eStr) x6.1)] (⟨_, true, [], none, true, fun A => .raw (.pointer (some ⟨b3, 0, none⟩))⟩ :: []) 1 rfl rfl rfl (by kernel_rfl) (by kernel_rfl) (Wf.mk' (by kernel_rfl) (UAll.cons ust_raw (UAll.nil)) (by kernel_rfl) (by kernel_rfl)) hO hA (trivial) ?_ ?_
 ·exact
   OblsR.p (fun A' R' w' ho hd => of_move ((ho.old 3 rfl).trans h3)) <|
   OblsR.nil
 intro done ρ σ A R w hdn hI
 replace h4 : R 4 = u8 := (hI.reg rfl).trans h4
 have z11 := hI.inivR 0 rfl
 have z12 := hI.inivR 1 rfl
 have h9 : R 9 = (.pointer (some ⟨b3, 0, none⟩)) := hI.fact hdn (i := 0) rfl rfl rfl
 replace hAA := hI.low' hAA hA0 (hO.ge (⟨rfl, ⟨rfl, trivial⟩⟩))
 replace hF : Fr w0 w := hF.tr hI.ch (hO.ge (⟨rfl, ⟨rfl, trivial⟩⟩))
 replace hO : IniOK [ob (.pointer (some ⟨b3, 0, none⟩)) (.box w0.heap.size 108 E_spec_l1Cur x6.2), ob u8 (.vec w0.heap.size 22 (eSl eStr) x6.1)] A w := hI.left hdn [(0, ob (.pointer (some ⟨b3, 0, none⟩)) (.box w0.heap.size 108 E_spec_l1Cur x6.2)), (1, ob u8 (.vec w0.heap.size 22 (eSl eStr) x6.1))] ⟨rfl, rfl, z11, rfl, rfl, ⟨rfl, rfl, z12, rfl, rfl, trivial⟩⟩
 replace hA := hI.avok
 clear hI
 obtain ⟨x13, q14, hr⟩ := cl_some hr
 have hFz : w0.heap.size ≤ w.heap.size := hF.size
 refine SG.op 10 rfl rfl rfl rfl (call_run Try.call81 (M_spec_l1Once_ok (q14 rfl) hA h9 (hO.sub [(0, ob (.pointer (some ⟨b3, 0, none⟩)) (.box w0.heap.size 108 E_spec_l1Cur x6.2))] ⟨rfl, rfl, trivial⟩) rfl)) ?_
 rintro v_ w ⟨A, hG1, hv⟩ R hs hd
 have hst := stp_call hA hG1 (hO.ok 0 _ rfl).2
 replace hAA : ∀ b o, A0 b o → A b o := low_call hAA hA0 (hO.ge (⟨rfl, ⟨rfl, trivial⟩⟩)) 0 rfl hG1
 replace hF : Fr w0 w := hF.tr hG1.ch (fun k hk => (hO.ge (⟨rfl, ⟨rfl, trivial⟩⟩)) k ⟨0, _, rfl, hk⟩)
 replace hO := GPost.next hO hA 0 rfl hG1
 replace hA := hG1.avok
 replace hO : IniOK [ob (.pointer (some ⟨b3, 0, none⟩)) (.box w0.heap.size 108 E_spec_l1Cur x13.2), ob u8 (.vec w0.heap.size 22 (eSl eStr) x6.1)] A w := hO
 replace h4 := (hs 4 rfl).trans h4
 replace h9 := (hs 9 rfl).trans h9
 have h10 : R 10 = .bool x13.1 := hd.trans hv
 clear hFz hG1 hv hs hd
 refine SG.fin rfl ?_
 replace hO : IniOK [ob u8 (.vec w0.heap.size 22 (eSl eStr) x6.1)] A w := hO.sub [(1, ob u8 (.vec w0.heap.size 22 (eSl eStr) x6.1))] ⟨rfl, rfl, trivial⟩
 refine HT.cond x13.1 h10 (fun c15 => ?_) (fun c15 => ?_)
 ·have hr := cnd_t c15 hr
  obtain ⟨e16, hr⟩ := ck_some hr
  refine HT.textR [ob u8 (.vec w0.heap.size 22 (eSl eStr) x6.1)] (⟨_, true, [], none, true, fun A => .raw u8⟩ :: ⟨_, true, [], none, true, fun A => .rep (eSl eStr) A ([([98] : List UInt8), ([97] : List UInt8), ([98] : List UInt8)] : List (List UInt8))⟩ :: ⟨_, true, [], none, true, fun A => .rep (eSl (eSl eStr)) A ([([([98] : List UInt8), ([97] : List UInt8), ([98] : List UInt8)] : List (List UInt8))] : List (List (List UInt8)))⟩ :: ⟨_, true, [0], some (.vec w0.heap.size 22 (eSl eStr) (x6.1 ++ ([([([98] : List UInt8), ([97] : List UInt8), ([98] : List UInt8)] : List (List UInt8))] : List (List (List UInt8))))), true, fun A => .any⟩ :: ⟨_, true, [4], some (.vec w0.heap.size 22 (eSl eStr) (x6.1 ++ ([([([98] : List UInt8), ([97] : List UInt8), ([98] : List UInt8)] : List (List UInt8))] : List (List (List UInt8))))), true, fun A => .any⟩ :: []) (by kernel_rfl) (by kernel_rfl) (Wf.mk' (by kernel_rfl) (UAll.cons ust_raw (UAll.cons ust_rep (UAll.cons ust_rep (UAll.cons ust_any (UAll.cons ust_any (UAll.nil)))))) (by kernel_rfl) (by kernel_rfl)) hO hA ?_ ?_
  ·exact
    OblsR.p (fun A' R' w' ho hd => of_move ((ho.old 4 rfl).trans h4)) <|
    OblsR.p (fun A' R' w' ho hd => of_build [_, _, _] (E := eStr) ⟨⟨_, rfl, ⟨_, rfl, rfl, by decide⟩⟩, ⟨⟨_, rfl, ⟨_, rfl, rfl, by decide⟩⟩, ⟨⟨_, rfl, ⟨_, rfl, rfl, by decide⟩⟩, trivial⟩⟩⟩ Try.underlying22 Try.sizeOf9 Try.zeroValue9 rfl rfl rfl ho.av) <|
    OblsR.p (fun A' R' w' ho hd => by have a0 : Rep (eSl eStr) A' w' (R' 12) ([([98] : List UInt8), ([97] : List UInt8), ([98] : List UInt8)] : List (List UInt8)) := hd.g 0 rfl; exact of_build [_] (E := eSl eStr) ⟨a0, trivial⟩ Try.underlying47 Try.sizeOf22 Try.zeroValue22 rfl rfl rfl ho.av) <|
    OblsR.cons (OblR.took 0 _ _ rfl rfl rfl rfl rfl fun A' R' w' ho hd u hok hav hin hop hds => by have a0 : R' 11 = u8 := hd.g 0 rfl; have a1 : Rep (eSl (eSl eStr)) A' w' (R' 13) ([([([98] : List UInt8), ([97] : List UInt8), ([98] : List UInt8)] : List (List UInt8))] : List (List (List UInt8))) := hd.g 1 rfl; exact took_append (a0.trans (hin _ rfl).symm) hok hav (Nat.le_trans hF.size ho.ch.size) a1 Try.underlying47 el_22 e16) <|
    OblsR.cons (OblR.took 4 _ _ rfl rfl rfl rfl rfl fun A' R' w' ho hd u hok hav hin hop hds => by exact took_assign (hop _ _ rfl rfl rfl rfl).symm hok hav) <|
    OblsR.nil
  intro done ρ σ A R w hdn hI
  obtain ⟨u17, e_u17⟩ : ∃ u, ρ 5 = u := ⟨_, rfl⟩
  have h4 : R 4 = u17 := (hI.opvR hdn 5 4 rfl rfl rfl rfl rfl).symm.trans e_u17
  replace hAA := hI.low' hAA hA0 (hO.ge (⟨rfl, trivial⟩))
  replace hF : Fr w0 w := hF.tr hI.ch (hO.ge (⟨rfl, trivial⟩))
  replace hO : IniOK [ob u17 (.vec w0.heap.size 22 (eSl eStr) (x6.1 ++ ([([([98] : List UInt8), ([97] : List UInt8), ([98] : List UInt8)] : List (List UInt8))] : List (List (List UInt8)))))] A w := hI.left hdn [(5, ob u17 (.vec w0.heap.size 22 (eSl eStr) (x6.1 ++ ([([([98] : List UInt8), ([97] : List UInt8), ([98] : List UInt8)] : List (List UInt8))] : List (List (List UInt8))))))] ⟨rfl, rfl, e_u17, rfl, rfl, trivial⟩
  replace hA := hI.avok
  clear hI
  refine HT.seq ?_
  refine HT.text (l := ⟨_, true, .raw u17⟩ :: ⟨_, true, .raw u17⟩ :: []) (tl := []) (by kernel_rfl) (by kernel_rfl) (by kernel_rfl) ?_ ?_
  ·exact
    Obls.p (fun R' w' hw hs hd => of_move ((hs 4 rfl).trans h4)) <|
    Obls.p (fun R' w' hw hs hd => by have a0 : R' 15 = u17 := hd.g 0 rfl; exact of_assign a0) <|
    Obls.nil
  intro R w hw hs hF'
  have h2 : R 2 = u17 := hF' 1 _ _ rfl rfl rfl
  replace hO := hO.fr hw
  replace hA := hA.fr hw.size
  replace hF := hF.trans hw
  clear hs hF' hw
  refine seqR_nil ?_
  refine HT.ret ?_
  obtain rfl := Option.some.inj hr
  exact ⟨.inr rfl, [R 2], ⟨rfl, trivial⟩, (own_post (hO.ok 0 _ rfl) hAA h2), hF⟩
 ·have hr := cnd_f c15 hr
  refine HT.skip ?_
  refine HT.seq ?_
  refine HT.text (l := ⟨_, true, .raw u8⟩ :: ⟨_, true, .raw u8⟩ :: []) (tl := []) (by kernel_rfl) (by kernel_rfl) (by kernel_rfl) ?_ ?_
  ·exact
    Obls.p (fun R' w' hw hs hd => of_move ((hs 4 rfl).trans h4)) <|
    Obls.p (fun R' w' hw hs hd => by have a0 : R' 15 = u8 := hd.g 0 rfl; exact of_assign a0) <|
    Obls.nil
  intro R w hw hs hF'
  have h2 : R 2 = u8 := hF' 1 _ _ rfl rfl rfl
  replace hO := hO.fr hw
  replace hA := hA.fr hw.size
  replace hF := hF.trans hw
  clear hs hF' hw
  refine seqR_nil ?_
  refine HT.ret ?_
  obtain rfl := Option.some.inj hr
  exact ⟨.inr rfl, [R 2], ⟨rfl, trivial⟩, (own_post (hO.ok 0 _ rfl) hAA h2), hF⟩
theorem M_spec_DrawCountTokens_okR {fu : Nat} {A0 : Av} {p0 : List Int} {r : List (List (List UInt8))} (hr : M_spec_DrawCountTokens fu p0 = some r) {w : World} {v0 : Value} (hA : AvOK A0 w) (h0 : Rep (eSl (eInt .u8)) A0 w v0 p0) :
  Calls Try.prog 38 #[v0] w fun e w' => ∃ v, e = .returned v ∧ (Rep (eSl (eSl eStr)) A0 w' v r ∧ Fr w w') := by
 refine Calls.mono (M_spec_DrawCountTokens_ok hr hA h0) ?_
 rintro e w' ⟨v, he, hv, hf⟩
 exact ⟨v, he, vec_rep hv (fun b o h => .inl h) hA, hf⟩
def M_slices_Compact_string_string_L1 (fu : Nat) (y5 : Int) (x13 : Nat) : Nat → Int → Int → (List (List UInt8)) → Option (Int × (List (List UInt8)))
 | 0, _, _, _ => none
 | k + 1, y18, y19, y20 =>
  bif (decide (y19 < (x13 : Int))) then (
   ck (inR y19 x13) <|
   ck (decide (0 ≤ y5)) <|
   ck (inR (y5 + y19) y20.length) <|
   ck (i64B (y19 - (1 : Int))) <|
   ck (inR (y19 - (1 : Int)) x13) <|
   ck (decide (0 ≤ y5)) <|
   ck (inR (y5 + (y19 - (1 : Int))) y20.length) <|
   bif (!((gtD y20 (y5 + y19)) == (gtD y20 (y5 + (y19 - (1 : Int)))))) then (
    ck (inR y19 x13) <|
    ck (decide (0 ≤ y5)) <|
    ck (inR (y5 + y19) y20.length) <|
    ck (inR y18 y20.length) <|
    ck (i64B (y18 + (1 : Int))) <|
    ck (i64B (y19 + (1 : Int))) <|
    M_slices_Compact_string_string_L1 fu y5 x13 k (y18 + (1 : Int)) (y19 + (1 : Int)) (y20.set y18.toNat (gtD y20 (y5 + y19)))
   ) else (
    ck (i64B (y19 + (1 : Int))) <|
    M_slices_Compact_string_string_L1 fu y5 x13 k y18 (y19 + (1 : Int)) y20
   )
  ) else (
   some (y18, y20)
  )
def M_slices_Compact_string_string_L0 (fu : Nat) : Nat → Int → (List (List UInt8)) → Option (Ex (List (List UInt8)) (List (List UInt8)))
 | 0, _, _ => none
 | k + 1, y5, y6 =>
  bif (decide (y5 < (y6.length : Int))) then (
   ck (inR y5 y6.length) <|
   ck (i64B (y5 - (1 : Int))) <|
   ck (inR (y5 - (1 : Int)) y6.length) <|
   bif ((gtD y6 y5) == (gtD y6 (y5 - (1 : Int)))) then (
    ck (subR y5 (y6.length : Int) y6.length) <|
    bd ((y6.length : Int).toNat - y5.toNat) fun x13 =>
    cl true (M_slices_Compact_string_string_L1 fu y5 x13 fu y5 (1 : Int) y6) fun s17 =>
    ck (subR s17.1 (s17.2.length : Int) s17.2.length) <|
    bd ((s17.2.length : Int).toNat - s17.1.toNat) fun x40 =>
    ck (subR s17.1 s17.2.length s17.2.length) <|
    ck (x40 == s17.2.length - s17.1.toNat) <|
    ck (subR 0 s17.1 (s17.2.take s17.1.toNat ++ List.replicate (s17.2.length - s17.1.toNat) ([] : List UInt8)).length) <|
    some (Ex.ret (subL (s17.2.take s17.1.toNat ++ List.replicate (s17.2.length - s17.1.toNat) ([] : List UInt8)) 0 s17.1))
   ) else (
    ck (i64B (y5 + (1 : Int))) <|
    M_slices_Compact_string_string_L0 fu k (y5 + (1 : Int)) y6
   )
  ) else (
   some (Ex.go y6)
  )
def M_slices_Compact_string_string (fu : Nat) (p0 : List (List UInt8)) : Option (List (List UInt8)) :=
 bif (decide ((p0.length : Int) < (2 : Int))) then (
  some p0
 ) else (
  cl true (M_slices_Compact_string_string_L0 fu fu (1 : Int) p0) fun rl2 =>
  exM rl2 (fun r => some r) fun s4 =>
  some s4
 )
theorem M_slices_Compact_string_string_ok {fu : Nat} {A0 : Av} {p0 : List (List UInt8)} {r : List (List UInt8)} (hr : M_slices_Compact_string_string fu p0 = some r) {w : World} {v0 : Value} {B0 : Nat} (hA : AvOK A0 w) (hN : ∀ b o, A0 b o → ¬ ownsB v0 b) (h0 : (Res.vec B0 9 eStr p0).ok A0 v0 w) :
  Calls Try.prog 112 #[v0] w fun e w' => ∃ v, e = .returned v ∧ Took (addA A0 v0) true v0 (.vec B0 9 eStr r) (fun _ => .any) w v w' := by
 unfold M_slices_Compact_string_string at hr
 obtain ⟨w0, hw0⟩ : ∃ w0, w0 = w := ⟨_, rfl⟩
 have hF : Ch (ownsB v0) w0 w := hw0 ▸ Ch.refl _ _
 have hA0 : ∀ b o, A0 b o → b < w0.heap.size := fun b o h => hw0 ▸ hA b o h
 have hA00 : AvOK A0 w0 := hA0
 rw [show Took (addA A0 v0) true v0 (.vec B0 9 eStr r) (fun _ => .any) w = Took (addA A0 v0) true v0 (.vec B0 9 eStr r) (fun _ => .any) w0 from hw0 ▸ rfl]
 clear hw0
 obtain ⟨A, hAe⟩ : ∃ A, A = addA A0 v0 := ⟨_, rfl⟩
 have hAA : ∀ b o, A0 b o → A b o := fun b o h => hAe ▸ .inl h
 replace hA : AvOK A w := hAe ▸ hA.one h0
 have hO : IniOK [ob v0 (.vec B0 9 eStr p0)] A w := hAe ▸ IniOK.one h0 (fun _ _ _ _ _ h => h)
 refine calls_of_HT2 [.tmp 2] Try.func112 Try.ntmps112 (by decide) rfl rfl (Nat.le_of_ble_eq_true rfl) ?_
 intro R hR
 replace h0 : R 0 = v0 := hR 0 _ rfl
 clear hR hAe
 refine HT.seq ?_
 refine HT.text (l := ⟨_, true, .any⟩ :: []) (tl := []) (by kernel_rfl) (by kernel_rfl) (by kernel_rfl) ?_ ?_
 ·exact
   Obls.p (fun R' w' hw hs hd => of_assign trivial) <|
   Obls.nil
 intro R w hw hs hF'
 replace h0 := (hs 0 rfl).trans h0
 replace hO := hO.fr hw
 replace hA := hA.fr hw.size
 replace hF := hF.tr (hw.ch noB) fun _ h => False.elim h
 clear hs hF' hw
 refine seqR_nil ?_
 refine HT.seq ?_
 refine HT.seq ?_
 refine HT.text (l := ⟨_, true, .raw v0⟩ :: ⟨_, true, .raw (.int .i64 (p0.length : Int))⟩ :: ⟨_, true, .raw (.bool (decide ((p0.length : Int) < (2 : Int))))⟩ :: []) (tl := []) (by kernel_rfl) (by kernel_rfl) (by kernel_rfl) ?_ ?_
 ·exact
   Obls.p (fun R' w' hw hs hd => of_move ((hs 0 rfl).trans h0)) <|
   Obls.p (fun R' w' hw hs hd => by have a0 : R' 6 = v0 := hd.g 0 rfl; exact of_len_vec (hO.ok 0 _ rfl).1 a0 Try.underlying22) <|
   Obls.p (fun R' w' hw hs hd => by have a0 : R' 7 = .int .i64 (p0.length : Int) := hd.g 0 rfl; exact of_lss a0 rfl) <|
   Obls.nil
 intro R w hw hs hF'
 replace h0 := (hs 0 rfl).trans h0
 have h8 : R 8 = .bool (decide ((p0.length : Int) < (2 : Int))) := hF' 2 _ _ rfl rfl rfl
 replace hO := hO.fr hw
 replace hA := hA.fr hw.size
 replace hF := hF.tr (hw.ch noB) fun _ h => False.elim h
 clear hs hF' hw
 refine seqR_nil ?_
 refine HT.cond (decide ((p0.length : Int) < (2 : Int))) h8 (fun c1 => ?_) (fun c1 => ?_)
 ·have hr := cnd_t c1 hr
  refine HT.seq ?_
  refine HT.text (l := ⟨_, true, .raw v0⟩ :: ⟨_, true, .raw v0⟩ :: []) (tl := []) (by kernel_rfl) (by kernel_rfl) (by kernel_rfl) ?_ ?_
  ·exact
    Obls.p (fun R' w' hw hs hd => of_move ((hs 0 rfl).trans h0)) <|
    Obls.p (fun R' w' hw hs hd => by have a0 : R' 9 = v0 := hd.g 0 rfl; exact of_assign a0) <|
    Obls.nil
  intro R w hw hs hF'
  have h2 : R 2 = v0 := hF' 1 _ _ rfl rfl rfl
  replace hO := hO.fr hw
  replace hA := hA.fr hw.size
  replace hF := hF.tr (hw.ch noB) fun _ h => False.elim h
  clear hs hF' hw
  refine seqR_nil ?_
  refine HT.ret ?_
  obtain rfl := Option.some.inj hr
  exact ⟨.inr rfl, [R 2], ⟨rfl, trivial⟩, by show Took _ true _ _ _ w0 (R 2) w; rw [h2]; exact took_post (fun k h o => .inr h) hF (hO.ok 0 _ rfl).1 (hO.own_ge (⟨.inr (fun k h => .inr h), trivial⟩) (i := 0) rfl) (fun _ _ _ _ _ h => h)⟩
 ·have hr := cnd_f c1 hr
  refine HT.skip ?_
  refine HT.seq ?_
  refine HT.seq ?_
  refine HT.text (l := ⟨_, true, .raw (.int .i64 (1 : Int))⟩ :: []) (tl := []) (by kernel_rfl) (by kernel_rfl) (by kernel_rfl) ?_ ?_
  ·exact
    Obls.p (fun R' w' hw hs hd => of_assign rfl) <|
    Obls.nil
  intro R w hw hs hF'
  replace h0 := (hs 0 rfl).trans h0
  have h3 : R 3 = .int .i64 (1 : Int) := hF' 0 _ _ rfl rfl rfl
  replace hO := hO.fr hw
  replace hA := hA.fr hw.size
  replace hF := hF.tr (hw.ch noB) fun _ h => False.elim h
  clear hs hF' hw
  refine seqR_nil ?_
  obtain ⟨rl2, q3, hr⟩ := cl_some hr
  replace q3 := q3 rfl
  refine HT.cut0 (fun R w => ∃ A : Av, ∃ (s4 : (List (List UInt8))), rl2 = Ex.go s4 ∧ AvOK A w ∧ Ch (ownsB v0) w0 w ∧ (∀ b o, A0 b o → A b o) ∧ IniOK [ob v0 (.vec B0 9 eStr s4)] A w ∧ R 0 = v0) ?_ ?_
  ·refine HT.block ?_
   refine HT.loop (fun k R w => ∃ A : Av, ∃ (y5 : Int) (y6 : List (List UInt8)), M_slices_Compact_string_string_L0 fu k y5 y6 = some rl2 ∧ AvOK A w ∧ Ch (ownsB v0) w0 w ∧ (∀ b o, A0 b o → A b o) ∧ IniOK [ob v0 (.vec B0 9 eStr y6)] A w ∧ R 0 = v0 ∧ R 3 = .int .i64 y5) fu ⟨_, _, _, q3, hA, hF, hAA, hO, h0, h3⟩ ?_
   have hr0 := hr; clear hr q3
   rintro k R w ⟨A, y5, y6, hr, hA, hF, hAA, hO, h0, h3⟩
   rcases k with _ | k
   ·cases (show none = some _ from hr)
   rw [M_slices_Compact_string_string_L0] at hr
   refine HT.seq ?_
   refine HT.seq ?_
   refine HT.text (l := ⟨_, true, .raw (.int .i64 y5)⟩ :: ⟨_, true, .raw v0⟩ :: ⟨_, true, .raw (.int .i64 (y6.length : Int))⟩ :: ⟨_, true, .raw (.bool (decide (y5 < (y6.length : Int))))⟩ :: []) (tl := []) (by kernel_rfl) (by kernel_rfl) (by kernel_rfl) ?_ ?_
   ·exact
     Obls.p (fun R' w' hw hs hd => of_move ((hs 3 rfl).trans h3)) <|
     Obls.p (fun R' w' hw hs hd => of_move ((hs 0 rfl).trans h0)) <|
     Obls.p (fun R' w' hw hs hd => by have a0 : R' 11 = v0 := hd.g 0 rfl; exact of_len_vec (hO.ok 0 _ rfl).1 a0 Try.underlying22) <|
     Obls.p (fun R' w' hw hs hd => by have a0 : R' 10 = .int .i64 y5 := hd.g 0 rfl; have a1 : R' 12 = .int .i64 (y6.length : Int) := hd.g 1 rfl; exact of_lss a0 a1) <|
     Obls.nil
   intro R w hw hs hF'
   replace h0 := (hs 0 rfl).trans h0
   replace h3 := (hs 3 rfl).trans h3
   have h13 : R 13 = .bool (decide (y5 < (y6.length : Int))) := hF' 3 _ _ rfl rfl rfl
   replace hO := hO.fr hw
   replace hA := hA.fr hw.size
   replace hF := hF.tr (hw.ch noB) fun _ h => False.elim h
   clear hs hF' hw
   refine seqR_nil ?_
   refine HT.cond (decide (y5 < (y6.length : Int))) h13 (fun c7 => ?_) (fun c7 => ?_)
   ·have hr := cnd_t c7 hr
    refine HT.skip ?_
    refine HT.seq ?_
    refine HT.block ?_
    refine HT.seq ?_
    obtain ⟨e8, hr⟩ := ck_some hr
    obtain ⟨e9, hr⟩ := ck_some hr
    obtain ⟨e10, hr⟩ := ck_some hr
    refine HT.draw (by kernel_rfl) (l := ⟨_, true, .raw v0⟩ :: ⟨_, true, .raw (.int .i64 y5)⟩ :: ⟨_, true, .raw (vptr v0 (y5.toNat * 1))⟩ :: ⟨_, true, .rep eStr A (gtD y6 y5)⟩ :: ⟨_, true, .raw v0⟩ :: ⟨_, true, .raw (.int .i64 y5)⟩ :: ⟨_, true, .raw (.int .i64 (y5 - (1 : Int)))⟩ :: ⟨_, true, .raw (vptr v0 ((y5 - (1 : Int)).toNat * 1))⟩ :: ⟨_, true, .rep eStr A (gtD y6 (y5 - (1 : Int)))⟩ :: ⟨_, true, .raw (.bool ((gtD y6 y5) == (gtD y6 (y5 - (1 : Int)))))⟩ :: []) (tl := []) (by kernel_rfl) (by kernel_rfl) (by kernel_rfl) (by kernel_rfl) ?_ ?_
    ·exact
      Obls.p (fun R' w' hw hs hd => of_move ((hs 0 rfl).trans h0)) <|
      Obls.p (fun R' w' hw hs hd => of_move ((hs 3 rfl).trans h3)) <|
      Obls.p (fun R' w' hw hs hd => by have a0 : R' 16 = v0 := hd.g 0 rfl; have a1 : R' 17 = .int .i64 y5 := hd.g 1 rfl; exact of_indexAddr_vec (hO.ok 0 _ rfl).1 a0 a1 Try.underlying22 Try.sizeOf9 e8 rfl) <|
      Obls.p (fun R' w' hw hs hd => by have a0 : R' 18 = (vptr v0 (y5.toNat * 1)) := hd.g 0 rfl; exact (of_load_vec ((hO.fr hw).ok 0 _ rfl).1 a0 e8 rfl (Fld.id _) rfl Try.isAgg9 Try.sizeOf9)) <|
      Obls.p (fun R' w' hw hs hd => of_move ((hs 0 rfl).trans h0)) <|
      Obls.p (fun R' w' hw hs hd => of_move ((hs 3 rfl).trans h3)) <|
      Obls.p (fun R' w' hw hs hd => by have a0 : R' 21 = .int .i64 y5 := hd.g 0 rfl; exact of_sub a0 rfl e9) <|
      Obls.p (fun R' w' hw hs hd => by have a0 : R' 20 = v0 := hd.g 0 rfl; have a1 : R' 22 = .int .i64 (y5 - (1 : Int)) := hd.g 1 rfl; exact of_indexAddr_vec (hO.ok 0 _ rfl).1 a0 a1 Try.underlying22 Try.sizeOf9 e10 rfl) <|
      Obls.p (fun R' w' hw hs hd => by have a0 : R' 23 = (vptr v0 ((y5 - (1 : Int)).toNat * 1)) := hd.g 0 rfl; exact (of_load_vec ((hO.fr hw).ok 0 _ rfl).1 a0 e10 rfl (Fld.id _) rfl Try.isAgg9 Try.sizeOf9)) <|
      Obls.p (fun R' w' hw hs hd => by have a0 : Rep eStr A w' (R' 19) (gtD y6 y5) := hd.g 0 rfl; have a1 : Rep eStr A w' (R' 24) (gtD y6 (y5 - (1 : Int))) := hd.g 1 rfl; exact of_seql a0 a1) <|
      Obls.nil
    intro R w hw hs hF'
    replace h0 := (hs 0 rfl).trans h0
    replace h3 := (hs 3 rfl).trans h3
    have h25 : R 25 = .bool ((gtD y6 y5) == (gtD y6 (y5 - (1 : Int)))) := hF' 9 _ _ rfl rfl rfl
    replace hO := hO.fr hw
    replace hA := hA.fr hw.size
    replace hF := hF.tr (hw.ch noB) fun _ h => False.elim h
    clear hs hF' hw
    refine seqR_nil ?_
    refine HT.cond ((gtD y6 y5) == (gtD y6 (y5 - (1 : Int)))) h25 (fun c11 => ?_) (fun c11 => ?_)
    ·have hr := cnd_t c11 hr
     refine HT.seq ?_
     obtain ⟨e12, hr⟩ := ck_some hr
     obtain ⟨x13, q14, hr⟩ := bd_some hr
     refine HT.text (l := ⟨_, true, .raw v0⟩ :: ⟨_, true, .raw (.int .i64 y5)⟩ :: ⟨_, true, .raw (vsub v0 y5.toNat x13 1)⟩ :: ⟨_, true, .raw (vsub v0 y5.toNat x13 1)⟩ :: []) (tl := []) (by kernel_rfl) (by kernel_rfl) (by kernel_rfl) ?_ ?_
     ·exact
       Obls.p (fun R' w' hw hs hd => of_move ((hs 0 rfl).trans h0)) <|
       Obls.p (fun R' w' hw hs hd => of_move ((hs 3 rfl).trans h3)) <|
       Obls.p (fun R' w' hw hs hd => by have a0 : R' 26 = v0 := hd.g 0 rfl; have a1 : R' 27 = .int .i64 y5 := hd.g 1 rfl; exact (q14 ▸ of_view (hO.ok 0 _ rfl).1 a0 a1 Try.underlying22 Try.sizeOf9 e12)) <|
       Obls.p (fun R' w' hw hs hd => by have a0 : R' 28 = (vsub v0 y5.toNat x13 1) := hd.g 0 rfl; exact of_assign a0) <|
       Obls.nil
     intro R w hw hs hF'
     replace h0 := (hs 0 rfl).trans h0
     replace h3 := (hs 3 rfl).trans h3
     have h4 : R 4 = (vsub v0 y5.toNat x13 1) := hF' 3 _ _ rfl rfl rfl
     replace hO := hO.fr hw
     replace hA := hA.fr hw.size
     replace hF := hF.tr (hw.ch noB) fun _ h => False.elim h
     clear hs hF' hw
     refine seqR_nil ?_
     refine HT.seq ?_
     refine HT.seq ?_
     refine HT.text (l := ⟨_, true, .raw (.int .i64 (1 : Int))⟩ :: []) (tl := []) (by kernel_rfl) (by kernel_rfl) (by kernel_rfl) ?_ ?_
     ·exact
       Obls.p (fun R' w' hw hs hd => of_assign rfl) <|
       Obls.nil
     intro R w hw hs hF'
     replace h0 := (hs 0 rfl).trans h0
     replace h3 := (hs 3 rfl).trans h3
     replace h4 := (hs 4 rfl).trans h4
     have h5 : R 5 = .int .i64 (1 : Int) := hF' 0 _ _ rfl rfl rfl
     replace hO := hO.fr hw
     replace hA := hA.fr hw.size
     replace hF := hF.tr (hw.ch noB) fun _ h => False.elim h
     clear hs hF' hw
     refine seqR_nil ?_
     obtain ⟨rl15, q16, hr⟩ := cl_some hr
     replace q16 := q16 rfl
     refine HT.cut0 (fun R w => ∃ A : Av, ∃ (s17 : Int × (List (List UInt8))), rl15 = s17 ∧ AvOK A w ∧ Ch (ownsB v0) w0 w ∧ (∀ b o, A0 b o → A b o) ∧ IniOK [ob v0 (.vec B0 9 eStr s17.2)] A w ∧ R 0 = v0 ∧ R 3 = .int .i64 s17.1) ?_ ?_
     ·refine HT.block ?_
      refine HT.loop (fun k R w => ∃ A : Av, ∃ (y18 : Int) (y19 : Int) (y20 : List (List UInt8)), M_slices_Compact_string_string_L1 fu y5 x13 k y18 y19 y20 = some rl15 ∧ AvOK A w ∧ Ch (ownsB v0) w0 w ∧ (∀ b o, A0 b o → A b o) ∧ IniOK [ob v0 (.vec B0 9 eStr y20)] A w ∧ R 0 = v0 ∧ R 3 = .int .i64 y18 ∧ R 4 = (vsub v0 y5.toNat x13 1) ∧ R 5 = .int .i64 y19) fu ⟨_, _, _, _, q16, hA, hF, hAA, hO, h0, h3, h4, h5⟩ ?_
      have hr1 := hr; clear hr q16
      rintro k R w ⟨A, y18, y19, y20, hr, hA, hF, hAA, hO, h0, h3, h4, h5⟩
      rcases k with _ | k
      ·cases (show none = some _ from hr)
      rw [M_slices_Compact_string_string_L1] at hr
      refine HT.seq ?_
      refine HT.seq ?_
      refine HT.text (l := ⟨_, true, .raw (.int .i64 y19)⟩ :: ⟨_, true, .raw (vsub v0 y5.toNat x13 1)⟩ :: ⟨_, true, .raw (.int .i64 (x13 : Int))⟩ :: ⟨_, true, .raw (.bool (decide (y19 < (x13 : Int))))⟩ :: []) (tl := []) (by kernel_rfl) (by kernel_rfl) (by kernel_rfl) ?_ ?_
      ·exact
        Obls.p (fun R' w' hw hs hd => of_move ((hs 5 rfl).trans h5)) <|
        Obls.p (fun R' w' hw hs hd => of_move ((hs 4 rfl).trans h4)) <|
        Obls.p (fun R' w' hw hs hd => by have a0 : R' 30 = (vsub v0 y5.toNat x13 1) := hd.g 0 rfl; exact of_len_view (hO.ok 0 _ rfl).1 a0 Try.underlying22) <|
        Obls.p (fun R' w' hw hs hd => by have a0 : R' 29 = .int .i64 y19 := hd.g 0 rfl; have a1 : R' 31 = .int .i64 (x13 : Int) := hd.g 1 rfl; exact of_lss a0 a1) <|
        Obls.nil
      intro R w hw hs hF'
      replace h0 := (hs 0 rfl).trans h0
      replace h3 := (hs 3 rfl).trans h3
      replace h4 := (hs 4 rfl).trans h4
      replace h5 := (hs 5 rfl).trans h5
      have h32 : R 32 = .bool (decide (y19 < (x13 : Int))) := hF' 3 _ _ rfl rfl rfl
      replace hO := hO.fr hw
      replace hA := hA.fr hw.size
      replace hF := hF.tr (hw.ch noB) fun _ h => False.elim h
      clear hs hF' hw
      refine seqR_nil ?_
      refine HT.cond (decide (y19 < (x13 : Int))) h32 (fun c21 => ?_) (fun c21 => ?_)
      ·have hr := cnd_t c21 hr
       refine HT.skip ?_
       refine HT.seq ?_
       refine HT.block ?_
       refine HT.seq ?_
       obtain ⟨e22, hr⟩ := ck_some hr
       obtain ⟨e23, hr⟩ := ck_some hr
       obtain ⟨e24, hr⟩ := ck_some hr
       obtain ⟨e25, hr⟩ := ck_some hr
       obtain ⟨e26, hr⟩ := ck_some hr
       obtain ⟨e27, hr⟩ := ck_some hr
       obtain ⟨e28, hr⟩ := ck_some hr
       refine HT.draw (by kernel_rfl) (l := ⟨_, true, .raw (vsub v0 y5.toNat x13 1)⟩ :: ⟨_, true, .raw (.int .i64 y19)⟩ :: ⟨_, true, .raw (vptr v0 ((y5 + y19).toNat * 1))⟩ :: ⟨_, true, .rep eStr A (gtD y20 (y5 + y19))⟩ :: ⟨_, true, .raw (vsub v0 y5.toNat x13 1)⟩ :: ⟨_, true, .raw (.int .i64 y19)⟩ :: ⟨_, true, .raw (.int .i64 (y19 - (1 : Int)))⟩ :: ⟨_, true, .raw (vptr v0 ((y5 + (y19 - (1 : Int))).toNat * 1))⟩ :: ⟨_, true, .rep eStr A (gtD y20 (y5 + (y19 - (1 : Int))))⟩ :: ⟨_, true, .raw (.bool (!((gtD y20 (y5 + y19)) == (gtD y20 (y5 + (y19 - (1 : Int)))))))⟩ :: []) (tl := []) (by kernel_rfl) (by kernel_rfl) (by kernel_rfl) (by kernel_rfl) ?_ ?_
       ·exact
         Obls.p (fun R' w' hw hs hd => of_move ((hs 4 rfl).trans h4)) <|
         Obls.p (fun R' w' hw hs hd => of_move ((hs 5 rfl).trans h5)) <|
         Obls.p (fun R' w' hw hs hd => by have a0 : R' 35 = (vsub v0 y5.toNat x13 1) := hd.g 0 rfl; have a1 : R' 36 = .int .i64 y19 := hd.g 1 rfl; exact of_indexAddr_view (hO.ok 0 _ rfl).1 a0 a1 Try.underlying22 Try.sizeOf9 e22 e23 e24 rfl) <|
         Obls.p (fun R' w' hw hs hd => by have a0 : R' 37 = (vptr v0 ((y5 + y19).toNat * 1)) := hd.g 0 rfl; exact (of_load_vec ((hO.fr hw).ok 0 _ rfl).1 a0 e24 rfl (Fld.id _) rfl Try.isAgg9 Try.sizeOf9)) <|
         Obls.p (fun R' w' hw hs hd => of_move ((hs 4 rfl).trans h4)) <|
         Obls.p (fun R' w' hw hs hd => of_move ((hs 5 rfl).trans h5)) <|
         Obls.p (fun R' w' hw hs hd => by have a0 : R' 40 = .int .i64 y19 := hd.g 0 rfl; exact of_sub a0 rfl e25) <|
         Obls.p (fun R' w' hw hs hd => by have a0 : R' 39 = (vsub v0 y5.toNat x13 1) := hd.g 0 rfl; have a1 : R' 41 = .int .i64 (y19 - (1 : Int)) := hd.g 1 rfl; exact of_indexAddr_view (hO.ok 0 _ rfl).1 a0 a1 Try.underlying22 Try.sizeOf9 e26 e27 e28 rfl) <|
         Obls.p (fun R' w' hw hs hd => by have a0 : R' 42 = (vptr v0 ((y5 + (y19 - (1 : Int))).toNat * 1)) := hd.g 0 rfl; exact (of_load_vec ((hO.fr hw).ok 0 _ rfl).1 a0 e28 rfl (Fld.id _) rfl Try.isAgg9 Try.sizeOf9)) <|
         Obls.p (fun R' w' hw hs hd => by have a0 : Rep eStr A w' (R' 38) (gtD y20 (y5 + y19)) := hd.g 0 rfl; have a1 : Rep eStr A w' (R' 43) (gtD y20 (y5 + (y19 - (1 : Int)))) := hd.g 1 rfl; exact of_sneq a0 a1) <|
         Obls.nil
       intro R w hw hs hF'
       replace h0 := (hs 0 rfl).trans h0
       replace h3 := (hs 3 rfl).trans h3
       replace h4 := (hs 4 rfl).trans h4
       replace h5 := (hs 5 rfl).trans h5
       have h44 : R 44 = .bool (!((gtD y20 (y5 + y19)) == (gtD y20 (y5 + (y19 - (1 : Int)))))) := hF' 9 _ _ rfl rfl rfl
       replace hO := hO.fr hw
       replace hA := hA.fr hw.size
       replace hF := hF.tr (hw.ch noB) fun _ h => False.elim h
       clear hs hF' hw
       refine seqR_nil ?_
       refine HT.cond (!((gtD y20 (y5 + y19)) == (gtD y20 (y5 + (y19 - (1 : Int)))))) h44 (fun c29 => ?_) (fun c29 => ?_)
       ·have hr := cnd_t c29 hr
        refine HT.seq ?_
        obtain ⟨e30, hr⟩ := ck_some hr
        obtain ⟨e31, hr⟩ := ck_some hr
        obtain ⟨e32, hr⟩ := ck_some hr
        obtain ⟨e33, hr⟩ := ck_some hr
        refine HT.textR [ob v0 (.vec B0 9 eStr y20)] (⟨_, true, [], none, true, fun A => .raw v0⟩ :: ⟨_, true, [], none, true, fun A => .raw (.int .i64 y18)⟩ :: ⟨_, true, [], none, true, fun A => .raw (vsub v0 y5.toNat x13 1)⟩ :: ⟨_, true, [], none, true, fun A => .raw (.int .i64 y19)⟩ :: ⟨_, true, [], none, true, fun A => .raw (vptr v0 ((y5 + y19).toNat * 1))⟩ :: ⟨_, true, [], none, true, fun A => .rep eStr A (gtD y20 (y5 + y19))⟩ :: ⟨_, true, [], none, true, fun A => .raw (vptr v0 (y18.toNat * 1))⟩ :: ⟨_, true, [0], some (.vec B0 9 eStr (y20.set y18.toNat (gtD y20 (y5 + y19)))), false, fun A => .any⟩ :: []) (by kernel_rfl) (by kernel_rfl) (Wf.mk' (by kernel_rfl) (UAll.cons ust_raw (UAll.cons ust_raw (UAll.cons ust_raw (UAll.cons ust_raw (UAll.cons ust_raw (UAll.cons ust_rep (UAll.cons ust_raw (UAll.cons ust_any (UAll.nil))))))))) (by kernel_rfl) (by kernel_rfl)) hO hA ?_ ?_
        ·exact
          OblsR.p (fun A' R' w' ho hd => of_move ((ho.old 0 rfl).trans h0)) <|
          OblsR.p (fun A' R' w' ho hd => of_move ((ho.old 3 rfl).trans h3)) <|
          OblsR.p (fun A' R' w' ho hd => of_move ((ho.old 4 rfl).trans h4)) <|
          OblsR.p (fun A' R' w' ho hd => of_move ((ho.old 5 rfl).trans h5)) <|
          OblsR.p (fun A' R' w' ho hd => by have a0 : R' 47 = (vsub v0 y5.toNat x13 1) := hd.g 0 rfl; have a1 : R' 48 = .int .i64 y19 := hd.g 1 rfl; exact of_indexAddr_view (hO.ok 0 _ rfl).1 a0 a1 Try.underlying22 Try.sizeOf9 e30 e31 e32 rfl) <|
          OblsR.p (fun A' R' w' ho hd => by have a0 : R' 49 = (vptr v0 ((y5 + y19).toNat * 1)) := hd.g 0 rfl; exact (of_load_vec (ho.rd 0 _ rfl rfl) a0 e32 rfl (Fld.id _) rfl Try.isAgg9 Try.sizeOf9)) <|
          OblsR.p (fun A' R' w' ho hd => by have a0 : R' 45 = v0 := hd.g 0 rfl; have a1 : R' 46 = .int .i64 y18 := hd.g 1 rfl; exact of_indexAddr_vec (hO.ok 0 _ rfl).1 a0 a1 Try.underlying22 Try.sizeOf9 e33 rfl) <|
          OblsR.cons (OblR.took 0 _ _ rfl rfl rfl rfl rfl fun A' R' w' ho hd u hok hav hin hop hds => by have a0 : R' 51 = (vptr v0 (y18.toNat * 1)) := hd.g 0 rfl; have a1 : Rep eStr A' w' (R' 50) (gtD y20 (y5 + y19)) := hd.g 1 rfl; obtain rfl := hin _ rfl; exact took_vstore a1 hok hav a0 e33 rfl (FldS.id _) Try.sizeOf9 rfl) <|
          OblsR.nil
        intro done ρ σ A R w hdn hI
        replace h0 : R 0 = v0 := (hI.reg rfl).trans h0
        replace h3 : R 3 = .int .i64 y18 := (hI.reg rfl).trans h3
        replace h4 : R 4 = (vsub v0 y5.toNat x13 1) := (hI.reg rfl).trans h4
        replace h5 : R 5 = .int .i64 y19 := (hI.reg rfl).trans h5
        have z34 := hI.inivR 0 rfl
        have z35 := (hI.opnR hdn 8 7 rfl rfl rfl rfl rfl).trans z34
        replace hAA := hI.lowK hAA hA0 hN (hO.geK (⟨.inr (fun k h => .inr h), trivial⟩))
        replace hF : Ch (ownsB v0) w0 w := hF.tr hI.ch (hO.geK (⟨.inr (fun k h => .inr h), trivial⟩))
        replace hO : IniOK [ob v0 (.vec B0 9 eStr (y20.set y18.toNat (gtD y20 (y5 + y19))))] A w := hI.left hdn [(8, ob v0 (.vec B0 9 eStr (y20.set y18.toNat (gtD y20 (y5 + y19)))))] ⟨rfl, rfl, z35, rfl, rfl, trivial⟩
        replace hA := hI.avok
        clear hI
        obtain ⟨e36, hr⟩ := ck_some hr
        refine HT.text (l := ⟨_, true, .raw (.int .i64 y18)⟩ :: ⟨_, true, .raw (.int .i64 (y18 + (1 : Int)))⟩ :: ⟨_, true, .raw (.int .i64 (y18 + (1 : Int)))⟩ :: []) (tl := []) (by kernel_rfl) (by kernel_rfl) (by kernel_rfl) ?_ ?_
        ·exact
          Obls.p (fun R' w' hw hs hd => of_move ((hs 3 rfl).trans h3)) <|
          Obls.p (fun R' w' hw hs hd => by have a0 : R' 52 = .int .i64 y18 := hd.g 0 rfl; exact of_add a0 rfl e36) <|
          Obls.p (fun R' w' hw hs hd => by have a0 : R' 53 = .int .i64 (y18 + (1 : Int)) := hd.g 0 rfl; exact of_assign a0) <|
          Obls.nil
        intro R w hw hs hF'
        replace h0 := (hs 0 rfl).trans h0
        replace h4 := (hs 4 rfl).trans h4
        replace h5 := (hs 5 rfl).trans h5
        have h3 : R 3 = .int .i64 (y18 + (1 : Int)) := hF' 2 _ _ rfl rfl rfl
        replace hO := hO.fr hw
        replace hA := hA.fr hw.size
        replace hF := hF.tr (hw.ch noB) fun _ h => False.elim h
        clear hs hF' hw
        refine seqR_nil ?_
        obtain ⟨e37, hr⟩ := ck_some hr
        refine HT.text (l := ⟨_, true, .raw (.int .i64 y19)⟩ :: ⟨_, true, .raw (.int .i64 (y19 + (1 : Int)))⟩ :: ⟨_, true, .raw (.int .i64 (y19 + (1 : Int)))⟩ :: []) (tl := []) (by kernel_rfl) (by kernel_rfl) (by kernel_rfl) ?_ ?_
        ·exact
          Obls.p (fun R' w' hw hs hd => of_move ((hs 5 rfl).trans h5)) <|
          Obls.p (fun R' w' hw hs hd => by have a0 : R' 33 = .int .i64 y19 := hd.g 0 rfl; exact of_add a0 rfl e37) <|
          Obls.p (fun R' w' hw hs hd => by have a0 : R' 34 = .int .i64 (y19 + (1 : Int)) := hd.g 0 rfl; exact of_assign a0) <|
          Obls.nil
        intro R w hw hs hF'
        replace h0 := (hs 0 rfl).trans h0
        replace h3 := (hs 3 rfl).trans h3
        replace h4 := (hs 4 rfl).trans h4
        have h5 : R 5 = .int .i64 (y19 + (1 : Int)) := hF' 2 _ _ rfl rfl rfl
        replace hO := hO.fr hw
        replace hA := hA.fr hw.size
        replace hF := hF.tr (hw.ch noB) fun _ h => False.elim h
        clear hs hF' hw
        refine seqR_nil ?_
        exact Exists.intro k (And.intro (Nat.lt_succ_self k) ⟨_, _, _, _, hr, hA, hF, hAA, hO, h0, h3, h4, h5⟩)
       ·have hr := cnd_f c29 hr
        refine HT.skip ?_
        obtain ⟨e38, hr⟩ := ck_some hr
        refine HT.text (l := ⟨_, true, .raw (.int .i64 y19)⟩ :: ⟨_, true, .raw (.int .i64 (y19 + (1 : Int)))⟩ :: ⟨_, true, .raw (.int .i64 (y19 + (1 : Int)))⟩ :: []) (tl := []) (by kernel_rfl) (by kernel_rfl) (by kernel_rfl) ?_ ?_
        ·exact
          Obls.p (fun R' w' hw hs hd => of_move ((hs 5 rfl).trans h5)) <|
          Obls.p (fun R' w' hw hs hd => by have a0 : R' 33 = .int .i64 y19 := hd.g 0 rfl; exact of_add a0 rfl e38) <|
          Obls.p (fun R' w' hw hs hd => by have a0 : R' 34 = .int .i64 (y19 + (1 : Int)) := hd.g 0 rfl; exact of_assign a0) <|
          Obls.nil
        intro R w hw hs hF'
        replace h0 := (hs 0 rfl).trans h0
        replace h3 := (hs 3 rfl).trans h3
        replace h4 := (hs 4 rfl).trans h4
        have h5 : R 5 = .int .i64 (y19 + (1 : Int)) := hF' 2 _ _ rfl rfl rfl
        replace hO := hO.fr hw
        replace hA := hA.fr hw.size
        replace hF := hF.tr (hw.ch noB) fun _ h => False.elim h
        clear hs hF' hw
        refine seqR_nil ?_
        exact Exists.intro k (And.intro (Nat.lt_succ_self k) ⟨_, _, _, _, hr, hA, hF, hAA, hO, h0, h3, h4, h5⟩)
      ·have hr := cnd_f c21 hr
       refine HT.exit ?_
       obtain rfl := Option.some.inj hr
       exact Exists.intro _ ⟨_, rfl, hA, hF, hAA, hO, h0, h3⟩
     rintro R w ⟨A, s17, es, hA, hF, hAA, hO, h0, h3⟩
     obtain rfl := es.symm
     refine HT.seq ?_
     obtain ⟨e39, hr⟩ := ck_some hr
     obtain ⟨x40, q41, hr⟩ := bd_some hr
     obtain ⟨e42, hr⟩ := ck_some hr
     obtain ⟨e43, hr⟩ := ck_some hr
     refine HT.textR [ob v0 (.vec B0 9 eStr s17.2)] (⟨_, true, [], none, true, fun A => .raw v0⟩ :: ⟨_, true, [], none, true, fun A => .raw (.int .i64 s17.1)⟩ :: ⟨_, true, [], none, true, fun A => .raw (vsub v0 s17.1.toNat x40 1)⟩ :: ⟨_, true, [0], some (.vec B0 9 eStr (s17.2.take s17.1.toNat ++ List.replicate (s17.2.length - s17.1.toNat) ([] : List UInt8))), false, fun A => .any⟩ :: []) (by kernel_rfl) (by kernel_rfl) (Wf.mk' (by kernel_rfl) (UAll.cons ust_raw (UAll.cons ust_raw (UAll.cons ust_raw (UAll.cons ust_any (UAll.nil))))) (by kernel_rfl) (by kernel_rfl)) hO hA ?_ ?_
     ·exact
       OblsR.p (fun A' R' w' ho hd => of_move ((ho.old 0 rfl).trans h0)) <|
       OblsR.p (fun A' R' w' ho hd => of_move ((ho.old 3 rfl).trans h3)) <|
       OblsR.p (fun A' R' w' ho hd => by have a0 : R' 54 = v0 := hd.g 0 rfl; have a1 : R' 55 = .int .i64 s17.1 := hd.g 1 rfl; exact (q41 ▸ of_view (hO.ok 0 _ rfl).1 a0 a1 Try.underlying22 Try.sizeOf9 e39)) <|
       OblsR.cons (OblR.took 0 _ _ rfl rfl rfl rfl rfl fun A' R' w' ho hd u hok hav hin hop hds => by have a0 : R' 56 = (vsub v0 s17.1.toNat x40 1) := hd.g 0 rfl; obtain rfl := hin _ rfl; exact took_clear a0 hok hav Try.underlying22 rfl Try.zeroValue9 (fun A w => (rep1_str rfl (by decide))) e42 e43 rfl) <|
       OblsR.nil
     intro done ρ σ A R w hdn hI
     replace h0 : R 0 = v0 := (hI.reg rfl).trans h0
     replace h3 : R 3 = .int .i64 s17.1 := (hI.reg rfl).trans h3
     have z44 := hI.inivR 0 rfl
     have z45 := (hI.opnR hdn 4 3 rfl rfl rfl rfl rfl).trans z44
     replace hAA := hI.lowK hAA hA0 hN (hO.geK (⟨.inr (fun k h => .inr h), trivial⟩))
     replace hF : Ch (ownsB v0) w0 w := hF.tr hI.ch (hO.geK (⟨.inr (fun k h => .inr h), trivial⟩))
     replace hO : IniOK [ob v0 (.vec B0 9 eStr (s17.2.take s17.1.toNat ++ List.replicate (s17.2.length - s17.1.toNat) ([] : List UInt8)))] A w := hI.left hdn [(4, ob v0 (.vec B0 9 eStr (s17.2.take s17.1.toNat ++ List.replicate (s17.2.length - s17.1.toNat) ([] : List UInt8))))] ⟨rfl, rfl, z45, rfl, rfl, trivial⟩
     replace hA := hI.avok
     clear hI
     refine HT.seq ?_
     obtain ⟨e46, hr⟩ := ck_some hr
     refine HT.textR [ob v0 (.vec B0 9 eStr (s17.2.take s17.1.toNat ++ List.replicate (s17.2.length - s17.1.toNat) ([] : List UInt8)))] (⟨_, true, [], none, true, fun A => .raw v0⟩ :: ⟨_, true, [], none, true, fun A => .raw (.int .i64 s17.1)⟩ :: ⟨_, true, [0], some (.vec B0 9 eStr (subL (s17.2.take s17.1.toNat ++ List.replicate (s17.2.length - s17.1.toNat) ([] : List UInt8)) 0 s17.1)), true, fun A => .any⟩ :: ⟨_, true, [3], some (.vec B0 9 eStr (subL (s17.2.take s17.1.toNat ++ List.replicate (s17.2.length - s17.1.toNat) ([] : List UInt8)) 0 s17.1)), true, fun A => .any⟩ :: []) (by kernel_rfl) (by kernel_rfl) (Wf.mk' (by kernel_rfl) (UAll.cons ust_raw (UAll.cons ust_raw (UAll.cons ust_any (UAll.cons ust_any (UAll.nil))))) (by kernel_rfl) (by kernel_rfl)) hO hA ?_ ?_
     ·exact
       OblsR.p (fun A' R' w' ho hd => of_move ((ho.old 0 rfl).trans h0)) <|
       OblsR.p (fun A' R' w' ho hd => of_move ((ho.old 3 rfl).trans h3)) <|
       OblsR.cons (OblR.took 0 _ _ rfl rfl rfl rfl rfl fun A' R' w' ho hd u hok hav hin hop hds => by have a0 : R' 57 = v0 := hd.g 0 rfl; have a1 : R' 58 = .int .i64 s17.1 := hd.g 1 rfl; exact took_prefix (a0.trans (hin _ rfl).symm) hok hav a1 Try.underlying22 Try.sizeOf9 e46 rfl) <|
       OblsR.cons (OblR.took 3 _ _ rfl rfl rfl rfl rfl fun A' R' w' ho hd u hok hav hin hop hds => by exact took_assign (hop _ _ rfl rfl rfl rfl).symm hok hav) <|
       OblsR.nil
     intro done ρ σ A R w hdn hI
     obtain ⟨u47, e_u47⟩ : ∃ u, ρ 4 = u := ⟨_, rfl⟩
     have h2 : R 2 = u47 := (hI.opvR hdn 4 3 rfl rfl rfl rfl rfl).symm.trans e_u47
     have hK_u47 : ∀ k, ownsB u47 k → w0.heap.size ≤ k ∨ (ownsB v0) k := hI.geK hdn 4 rfl rfl rfl e_u47 (hO.geK (⟨.inr (fun k h => .inr h), trivial⟩)) hF.size
     replace hAA := hI.lowK hAA hA0 hN (hO.geK (⟨.inr (fun k h => .inr h), trivial⟩))
     replace hF : Ch (ownsB v0) w0 w := hF.tr hI.ch (hO.geK (⟨.inr (fun k h => .inr h), trivial⟩))
     replace hO : IniOK [ob u47 (.vec B0 9 eStr (subL (s17.2.take s17.1.toNat ++ List.replicate (s17.2.length - s17.1.toNat) ([] : List UInt8)) 0 s17.1))] A w := hI.left hdn [(4, ob u47 (.vec B0 9 eStr (subL (s17.2.take s17.1.toNat ++ List.replicate (s17.2.length - s17.1.toNat) ([] : List UInt8)) 0 s17.1)))] ⟨rfl, rfl, e_u47, rfl, rfl, trivial⟩
     replace hA := hI.avok
     clear hI
     refine HT.ret ?_
     obtain rfl := Option.some.inj hr
     have hr := hr0
     replace hr : some _ = some _ := hr
     obtain rfl := Option.some.inj hr
     exact ⟨.inr rfl, [R 2], ⟨rfl, trivial⟩, by show Took _ true _ _ _ w0 (R 2) w; rw [h2]; exact took_post (fun k h o => .inr h) hF (hO.ok 0 _ rfl).1 (hO.own_ge (⟨.inr hK_u47, trivial⟩) (i := 0) rfl) (fun _ _ _ _ _ h => h)⟩
    ·have hr := cnd_f c11 hr
     refine HT.skip ?_
     obtain ⟨e48, hr⟩ := ck_some hr
     refine HT.text (l := ⟨_, true, .raw (.int .i64 y5)⟩ :: ⟨_, true, .raw (.int .i64 (y5 + (1 : Int)))⟩ :: ⟨_, true, .raw (.int .i64 (y5 + (1 : Int)))⟩ :: []) (tl := []) (by kernel_rfl) (by kernel_rfl) (by kernel_rfl) ?_ ?_
     ·exact
       Obls.p (fun R' w' hw hs hd => of_move ((hs 3 rfl).trans h3)) <|
       Obls.p (fun R' w' hw hs hd => by have a0 : R' 14 = .int .i64 y5 := hd.g 0 rfl; exact of_add a0 rfl e48) <|
       Obls.p (fun R' w' hw hs hd => by have a0 : R' 15 = .int .i64 (y5 + (1 : Int)) := hd.g 0 rfl; exact of_assign a0) <|
       Obls.nil
     intro R w hw hs hF'
     replace h0 := (hs 0 rfl).trans h0
     have h3 : R 3 = .int .i64 (y5 + (1 : Int)) := hF' 2 _ _ rfl rfl rfl
     replace hO := hO.fr hw
     replace hA := hA.fr hw.size
     replace hF := hF.tr (hw.ch noB) fun _ h => False.elim h
     clear hs hF' hw
     refine seqR_nil ?_
     exact Exists.intro k (And.intro (Nat.lt_succ_self k) ⟨_, _, _, hr, hA, hF, hAA, hO, h0, h3⟩)
   ·have hr := cnd_f c7 hr
    refine HT.exit ?_
    obtain rfl := Option.some.inj hr
    exact Exists.intro _ ⟨_, rfl, hA, hF, hAA, hO, h0⟩
  rintro R w ⟨A, s4, rfl, hA, hF, hAA, hO, h0⟩
  have hr := exM_go hr
  refine HT.seq ?_
  refine HT.text (l := ⟨_, true, .raw v0⟩ :: ⟨_, true, .raw v0⟩ :: []) (tl := []) (by kernel_rfl) (by kernel_rfl) (by kernel_rfl) ?_ ?_
  ·exact
    Obls.p (fun R' w' hw hs hd => of_move ((hs 0 rfl).trans h0)) <|
    Obls.p (fun R' w' hw hs hd => by have a0 : R' 60 = v0 := hd.g 0 rfl; exact of_assign a0) <|
    Obls.nil
  intro R w hw hs hF'
  have h2 : R 2 = v0 := hF' 1 _ _ rfl rfl rfl
  replace hO := hO.fr hw
  replace hA := hA.fr hw.size
  replace hF := hF.tr (hw.ch noB) fun _ h => False.elim h
  clear hs hF' hw
  refine seqR_nil ?_
  refine HT.ret ?_
  obtain rfl := Option.some.inj hr
  exact ⟨.inr rfl, [R 2], ⟨rfl, trivial⟩, by show Took _ true _ _ _ w0 (R 2) w; rw [h2]; exact took_post (fun k h o => .inr h) hF (hO.ok 0 _ rfl).1 (hO.own_ge (⟨.inr (fun k h => .inr h), trivial⟩) (i := 0) rfl) (fun _ _ _ _ _ h => h)⟩
def M_impl_sortedSet (fu : Nat) (p0 : List (List UInt8)) : Option (List (List UInt8)) :=
 cl true (M_slices_Clone_string_string fu p0) fun x1 =>
 cl true (M_sortS fu x1) fun x4 =>
 cl true (M_slices_Compact_string_string fu x4) fun x8 =>
 some x8
theorem M_impl_sortedSet_ok {fu : Nat} {A0 : Av} {p0 : List (List UInt8)} {r : List (List UInt8)} (hr : M_impl_sortedSet fu p0 = some r) {w : World} {v0 : Value} (hA : AvOK A0 w) (h0 : Rep (eSl eStr) A0 w v0 p0) :
  Calls Try.prog 82 #[v0] w fun e w' => ∃ v, e = .returned v ∧ ((Res.vec w.heap.size 9 eStr r).ok (addA A0 v) v w' ∧ Fr w w') := by
 unfold M_impl_sortedSet at hr
 obtain ⟨w0, hw0⟩ : ∃ w0, w0 = w := ⟨_, rfl⟩
 have hF : Fr w0 w := hw0 ▸ Fr.refl _
 have hA0 : ∀ b o, A0 b o → b < w0.heap.size := fun b o h => hw0 ▸ hA b o h
 have hA00 : AvOK A0 w0 := hA0
 rw [show w.heap.size = w0.heap.size from hw0 ▸ rfl]
 rw [show Fr w = Fr w0 from hw0 ▸ rfl]
 clear hw0
 obtain ⟨A, hAe⟩ : ∃ A, A = A0 := ⟨_, rfl⟩
 have hAA : ∀ b o, A0 b o → A b o := fun b o h => hAe ▸ h
 replace hA : AvOK A w := hAe ▸ hA
 have hO : IniOK [] A w := IniOK.nil
 refine calls_of_HT2 [.tmp 2] Try.func82 Try.ntmps82 (by decide) rfl rfl (Nat.le_of_ble_eq_true rfl) ?_
 intro R hR
 have f_v0 : Rep (eSl eStr) A w v0 p0 := hAe ▸ h0
 replace h0 : R 0 = v0 := hR 0 _ rfl
 clear hR hAe
 refine HT.seq ?_
 refine HT.text (l := ⟨_, true, .any⟩ :: []) (tl := []) (by kernel_rfl) (by kernel_rfl) (by kernel_rfl) ?_ ?_
 ·exact
   Obls.p (fun R' w' hw hs hd => of_assign trivial) <|
   Obls.nil
 intro R w hw hs hF'
 replace h0 := (hs 0 rfl).trans h0
 replace f_v0 := f_v0.fr hw
 replace hO := hO.fr hw
 replace hA := hA.fr hw.size
 replace hF := hF.trans hw
 clear hs hF' hw
 refine seqR_nil ?_
 refine HT.seq ?_
 obtain ⟨x1, q2, hr⟩ := cl_some hr
 refine HT.textR [] (⟨_, true, [], none, true, fun A => .raw v0⟩ :: ⟨_, true, [], some (.vec w0.heap.size 9 eStr x1), true, fun A => .any⟩ :: ⟨_, true, [1], some (.vec w0.heap.size 9 eStr x1), true, fun A => .any⟩ :: []) (by kernel_rfl) (by kernel_rfl) (Wf.mk' (by kernel_rfl) (UAll.cons ust_raw (UAll.cons ust_any (UAll.cons ust_any (UAll.nil)))) (by kernel_rfl) (by kernel_rfl)) hO hA ?_ ?_
 ·exact
   OblsR.p (fun A' R' w' ho hd => of_move ((ho.old 0 rfl).trans h0)) <|
   OblsR.cons (OblR.made _ rfl rfl rfl rfl fun A' R' w' ho hd => by have a0 : R' 4 = v0 := hd.g 0 rfl; have ra0 := (f_v0.stp ho.stp).eq a0; exact made_call Try.call73 (M_slices_Clone_string_string_ok (q2 rfl) ho.av ra0) (Nat.le_trans hF.size ho.ch.size)) <|
   OblsR.cons (OblR.took 1 _ _ rfl rfl rfl rfl rfl fun A' R' w' ho hd u hok hav hin hop hds => by exact took_assign (hop _ _ rfl rfl rfl rfl).symm hok hav) <|
   OblsR.nil
 intro done ρ σ A R w hdn hI
 obtain ⟨u3, e_u3⟩ : ∃ u, ρ 2 = u := ⟨_, rfl⟩
 have h3 : R 3 = u3 := (hI.opvR hdn 2 2 rfl rfl rfl rfl rfl).symm.trans e_u3
 replace hAA := hI.low' hAA hA0 (hO.ge (trivial))
 replace hF : Fr w0 w := hF.tr hI.ch (hO.ge (trivial))
 replace hO : IniOK [ob u3 (.vec w0.heap.size 9 eStr x1)] A w := hI.left hdn [(2, ob u3 (.vec w0.heap.size 9 eStr x1))] ⟨rfl, rfl, e_u3, rfl, rfl, trivial⟩
 replace hA := hI.avok
 clear hI
 refine HT.seq ?_
 obtain ⟨x4, q5, hr⟩ := cl_some hr
 refine HT.textR [ob u3 (.vec w0.heap.size 9 eStr x1)] (⟨_, true, [], none, true, fun A => .raw u3⟩ :: ⟨_, true, [0], some (.vec w0.heap.size 9 eStr x4), false, fun A => .any⟩ :: []) (by kernel_rfl) (by kernel_rfl) (Wf.mk' (by kernel_rfl) (UAll.cons ust_raw (UAll.cons ust_any (UAll.nil))) (by kernel_rfl) (by kernel_rfl)) hO hA ?_ ?_
 ·exact
   OblsR.p (fun A' R' w' ho hd => of_move ((ho.old 3 rfl).trans h3)) <|
   OblsR.cons (OblR.took 0 _ _ rfl rfl rfl rfl rfl fun A' R' w' ho hd u hok hav hin hop hds => by have a0 : R' 6 = u3 := hd.g 0 rfl; have hu0 : evalR R' (.tmp 6) = u := a0.trans (hin _ rfl).symm; exact took_call Try.call83 hav (fun _ _ _ _ _ h => h) (by simp only [List.map, hu0]; exact Calls.mono (M_sortS_ok (q5 rfl) (ho.av.sub _) (fun b o h => h.2) (Vec.flat hok (fun _ _ _ _ _ h => h))) (fun _ _ ⟨v, h1, h2, h3, h4⟩ => ⟨v, h1, trivial, h3, h4⟩))) <|
   OblsR.nil
 intro done ρ σ A R w hdn hI
 replace h3 : R 3 = u3 := (hI.reg rfl).trans h3
 have z6 := hI.inivR 0 rfl
 have z7 := (hI.opnR hdn 2 1 rfl rfl rfl rfl rfl).trans z6
 replace hAA := hI.low' hAA hA0 (hO.ge (⟨rfl, trivial⟩))
 replace hF : Fr w0 w := hF.tr hI.ch (hO.ge (⟨rfl, trivial⟩))
 replace hO : IniOK [ob u3 (.vec w0.heap.size 9 eStr x4)] A w := hI.left hdn [(2, ob u3 (.vec w0.heap.size 9 eStr x4))] ⟨rfl, rfl, z7, rfl, rfl, trivial⟩
 replace hA := hI.avok
 clear hI
 refine HT.seq ?_
 obtain ⟨x8, q9, hr⟩ := cl_some hr
 refine HT.textR [ob u3 (.vec w0.heap.size 9 eStr x4)] (⟨_, true, [], none, true, fun A => .raw u3⟩ :: ⟨_, true, [0], some (.vec w0.heap.size 9 eStr x8), true, fun A => .any⟩ :: ⟨_, true, [2], some (.vec w0.heap.size 9 eStr x8), true, fun A => .any⟩ :: []) (by kernel_rfl) (by kernel_rfl) (Wf.mk' (by kernel_rfl) (UAll.cons ust_raw (UAll.cons ust_any (UAll.cons ust_any (UAll.nil)))) (by kernel_rfl) (by kernel_rfl)) hO hA ?_ ?_
 ·exact
   OblsR.p (fun A' R' w' ho hd => of_move ((ho.old 3 rfl).trans h3)) <|
   OblsR.cons (OblR.took 0 _ _ rfl rfl rfl rfl rfl fun A' R' w' ho hd u hok hav hin hop hds => by have a0 : R' 8 = u3 := hd.g 0 rfl; have hu0 : evalR R' (.tmp 8) = u := a0.trans (hin _ rfl).symm; exact took_callm Try.call112 hav (by simp only [List.map, hu0]; exact M_slices_Compact_string_string_ok (q9 rfl) (ho.av.sub _) (fun b o h => h.2) (Vec.flat hok (fun _ _ _ _ _ h => h)))) <|
   OblsR.cons (OblR.took 2 _ _ rfl rfl rfl rfl rfl fun A' R' w' ho hd u hok hav hin hop hds => by exact took_assign (hop _ _ rfl rfl rfl rfl).symm hok hav) <|
   OblsR.nil
 intro done ρ σ A R w hdn hI
 obtain ⟨u10, e_u10⟩ : ∃ u, ρ 3 = u := ⟨_, rfl⟩
 have h2 : R 2 = u10 := (hI.opvR hdn 3 2 rfl rfl rfl rfl rfl).symm.trans e_u10
 replace hAA := hI.low' hAA hA0 (hO.ge (⟨rfl, trivial⟩))
 replace hF : Fr w0 w := hF.tr hI.ch (hO.ge (⟨rfl, trivial⟩))
 replace hO : IniOK [ob u10 (.vec w0.heap.size 9 eStr x8)] A w := hI.left hdn [(3, ob u10 (.vec w0.heap.size 9 eStr x8))] ⟨rfl, rfl, e_u10, rfl, rfl, trivial⟩
 replace hA := hI.avok
 clear hI
 refine HT.ret ?_
 obtain rfl := Option.some.inj hr
 exact ⟨.inr rfl, [R 2], ⟨rfl, trivial⟩, (own_post (hO.ok 0 _ rfl) hAA h2), hF⟩
theorem M_impl_sortedSet_okR {fu : Nat} {A0 : Av} {p0 : List (List UInt8)} {r : List (List UInt8)} (hr : M_impl_sortedSet fu p0 = some r) {w : World} {v0 : Value} (hA : AvOK A0 w) (h0 : Rep (eSl eStr) A0 w v0 p0) :
  Calls Try.prog 82 #[v0] w fun e w' => ∃ v, e = .returned v ∧ (Rep (eSl eStr) A0 w' v r ∧ Fr w w') := by
 refine Calls.mono (M_impl_sortedSet_ok hr hA h0) ?_
 rintro e w' ⟨v, he, hv, hf⟩
 exact ⟨v, he, vec_rep hv (fun b o h => .inl h) hA, hf⟩
def M_impl_CountTokens_L0 (fu : Nat) (p0 : List (List (List UInt8))) : Nat → Int → (List (List UInt8)) → Option (List (List UInt8))
 | 0, _, _ => none
 | k + 1, y5, y6 =>
  bif (decide (y5 < (p0.length : Int))) then (
   ck (inR y5 p0.length) <|
   cl true (M_impl_sortedSet fu (gtD p0 y5)) fun x10 =>
   ck (lenOK (y6.length + x10.length)) <|
   ck (i64B (y5 + (1 : Int))) <|
   M_impl_CountTokens_L0 fu p0 k (y5 + (1 : Int)) (y6 ++ x10)
  ) else (
   some y6
  )
def M_impl_CountTokens_L1 (fu : Nat) (x15 : List (List UInt8)) : Nat → Int → (List T_impl_TokenCount) → Option (List T_impl_TokenCount)
 | 0, _, _ => none
 | k + 1, y23, y24 =>
  bif (decide (y23 < (x15.length : Int))) then (
   ck (inR y23 x15.length) <|
   ck (!(true && ((decide ((0 : Int) < y23)) == true)) || i64B (y23 - (1 : Int))) <|
   ck (!(true && ((decide ((0 : Int) < y23)) == true)) || inR (y23 - (1 : Int)) x15.length) <|
   bd ((decide ((0 : Int) < y23)) && ((gtD x15 (y23 - (1 : Int))) == (gtD x15 y23))) fun x30 =>
   bif x30 then (
    ck (i64B ((y24.length : Int) - (1 : Int))) <|
    ck (inR ((y24.length : Int) - (1 : Int)) y24.length) <|
    ck (i64B (((gtD y24 ((y24.length : Int) - (1 : Int))).2) + (1 : Int))) <|
    ck (inR ((y24.length : Int) - (1 : Int)) y24.length) <|
    ck (i64B (y23 + (1 : Int))) <|
    M_impl_CountTokens_L1 fu x15 k (y23 + (1 : Int)) (y24.set ((y24.length : Int) - (1 : Int)).toNat ((gtD y24 ((y24.length : Int) - (1 : Int))).1, (((gtD y24 ((y24.length : Int) - (1 : Int))).2) + (1 : Int))))
   ) else (
    ck (lenOK (y24.length + ([((gtD x15 y23), (1 : Int))] : List T_impl_TokenCount).length)) <|
    ck (i64B (y23 + (1 : Int))) <|
    M_impl_CountTokens_L1 fu x15 k (y23 + (1 : Int)) (y24 ++ ([((gtD x15 y23), (1 : Int))] : List T_impl_TokenCount))
   )
  ) else (
   some y24
  )
def M_impl_CountTokens (fu : Nat) (p0 : List (List (List UInt8))) : Option (List T_impl_TokenCount) :=
 cl true (M_impl_CountTokens_L0 fu p0 fu (0 : Int) ([] : List (List UInt8))) fun s4 =>
 cl true (M_sortS fu s4) fun x15 =>
 cl true (M_impl_CountTokens_L1 fu x15 fu (0 : Int) ([] : List T_impl_TokenCount)) fun s22 =>
 some s22
set_option linter.unusedSimpArgs false in
theorem M_impl_CountTokens_ok {fu : Nat} {A0 : Av} {p0 : List (List (List UInt8))} {r : List T_impl_TokenCount} (hr : M_impl_CountTokens fu p0 = some r) {w : World} {v0 : Value} (hA : AvOK A0 w) (h0 : Rep (eSl (eSl eStr)) A0 w v0 p0) :
  Calls Try.prog 39 #[v0] w fun e w' => ∃ v, e = .returned v ∧ ((Res.vec w.heap.size 52 E_impl_TokenCount r).ok (addA A0 v) v w' ∧ Fr w w') := by
 unfold M_impl_CountTokens at hr
 obtain ⟨w0, hw0⟩ : ∃ w0, w0 = w := ⟨_, rfl⟩
 have hF : Fr w0 w := hw0 ▸ Fr.refl _
 have hA0 : ∀ b o, A0 b o → b < w0.heap.size := fun b o h => hw0 ▸ hA b o h
 have hA00 : AvOK A0 w0 := hA0
 rw [show w.heap.size = w0.heap.size from hw0 ▸ rfl]
 rw [show Fr w = Fr w0 from hw0 ▸ rfl]
 clear hw0
 obtain ⟨A, hAe⟩ : ∃ A, A = A0 := ⟨_, rfl⟩
 have hAA : ∀ b o, A0 b o → A b o := fun b o h => hAe ▸ h
 replace hA : AvOK A w := hAe ▸ hA
 have hO : IniOK [] A w := IniOK.nil
 refine calls_of_HT2 [.tmp 2] Try.func39 Try.ntmps39 (by decide) rfl rfl (Nat.le_of_ble_eq_true rfl) ?_
 intro R hR
 have f_v0 : Rep (eSl (eSl eStr)) A w v0 p0 := hAe ▸ h0
 replace h0 : R 0 = v0 := hR 0 _ rfl
 clear hR hAe
 refine HT.seq ?_
 refine HT.text (l := ⟨_, true, .any⟩ :: []) (tl := []) (by kernel_rfl) (by kernel_rfl) (by kernel_rfl) ?_ ?_
 ·exact
   Obls.p (fun R' w' hw hs hd => of_assign trivial) <|
   Obls.nil
 intro R w hw hs hF'
 replace h0 := (hs 0 rfl).trans h0
 replace f_v0 := f_v0.fr hw
 replace hO := hO.fr hw
 replace hA := hA.fr hw.size
 replace hF := hF.trans hw
 clear hs hF' hw
 refine seqR_nil ?_
 refine HT.seq ?_
 refine HT.text (l := ⟨_, true, .raw (.slice none 0 0)⟩ :: []) (tl := []) (by kernel_rfl) (by kernel_rfl) (by kernel_rfl) ?_ ?_
 ·exact
   Obls.p (fun R' w' hw hs hd => of_assign rfl) <|
   Obls.nil
 intro R w hw hs hF'
 replace h0 := (hs 0 rfl).trans h0
 obtain ⟨u1, n_u1⟩ : ∃ u, u = Value.slice none 0 0 := ⟨_, rfl⟩
 have h3 : R 3 = u1 := (hF' 0 _ _ rfl rfl rfl).trans n_u1.symm
 replace f_v0 := f_v0.fr hw
 replace hO := hO.fr hw
 replace hA := hA.fr hw.size
 replace hF := hF.trans hw
 clear hs hF' hw
 refine seqR_nil ?_
 replace hO := hO.nilcons (u := u1) n_u1 w0.heap.size 9 eStr
 refine HT.seq ?_
 refine HT.seq ?_
 refine HT.text (l := ⟨_, true, .raw v0⟩ :: ⟨_, true, .raw (.int .i64 (p0.length : Int))⟩ :: ⟨_, true, .raw (.int .i64 (0 : Int))⟩ :: []) (tl := []) (by kernel_rfl) (by kernel_rfl) (by kernel_rfl) ?_ ?_
 ·exact
   Obls.p (fun R' w' hw hs hd => of_move ((hs 0 rfl).trans h0)) <|
   Obls.p (fun R' w' hw hs hd => by have a0 : R' 9 = v0 := hd.g 0 rfl; have ra0 := (f_v0.fr hw).eq a0; exact of_len_sl (aT := #[]) ra0 Try.underlying47) <|
   Obls.p (fun R' w' hw hs hd => of_move rfl) <|
   Obls.nil
 intro R w hw hs hF'
 replace h3 := (hs 3 rfl).trans h3
 have h9 : R 9 = v0 := hF' 0 _ _ rfl rfl rfl
 have h10 : R 10 = .int .i64 (p0.length : Int) := hF' 1 _ _ rfl rfl rfl
 have h11 : R 11 = .int .i64 (0 : Int) := hF' 2 _ _ rfl rfl rfl
 replace f_v0 := f_v0.fr hw
 replace hO := hO.fr hw
 replace hA := hA.fr hw.size
 replace hF := hF.trans hw
 clear hs hF' hw
 refine seqR_nil ?_
 obtain ⟨rl2, q3, hr⟩ := cl_some hr
 replace q3 := q3 rfl
 refine HT.cut0 (fun R w => ∃ A : Av, ∃ (s4 : (List (List UInt8))) (uo_u1 : Value), rl2 = s4 ∧ AvOK A w ∧ Fr w0 w ∧ (∀ b o, A0 b o → A b o) ∧ IniOK [ob uo_u1 (.vec w0.heap.size 9 eStr s4)] A w ∧ R 3 = uo_u1) ?_ ?_
 ·refine HT.block ?_
  refine HT.loop (fun k R w => ∃ A : Av, ∃ (y5 : Int) (y6 : List (List UInt8)) (ul_u1 : Value), M_impl_CountTokens_L0 fu p0 k y5 y6 = some rl2 ∧ AvOK A w ∧ Fr w0 w ∧ (∀ b o, A0 b o → A b o) ∧ IniOK [ob ul_u1 (.vec w0.heap.size 9 eStr y6)] A w ∧ R 3 = ul_u1 ∧ R 9 = v0 ∧ R 10 = .int .i64 (p0.length : Int) ∧ R 11 = .int .i64 y5 ∧ Rep (eSl (eSl eStr)) A w v0 p0) fu ⟨_, _, _, u1, q3, hA, hF, hAA, hO, h3, h9, h10, h11, f_v0⟩ ?_
  have hr0 := hr; clear hr q3
  rintro k R w ⟨A, y5, y6, ul_u1, hr, hA, hF, hAA, hO, h3, h9, h10, h11, f_v0⟩
  rcases k with _ | k
  ·cases (show none = some _ from hr)
  rw [M_impl_CountTokens_L0] at hr
  refine HT.seq ?_
  refine HT.text (l := ⟨_, true, .raw (.bool (decide (y5 < (p0.length : Int))))⟩ :: []) (tl := []) (by kernel_rfl) (by kernel_rfl) (by kernel_rfl) ?_ ?_
  ·exact
    Obls.p (fun R' w' hw hs hd => of_lss ((hs 11 rfl).trans h11) ((hs 10 rfl).trans h10)) <|
    Obls.nil
  intro R w hw hs hF'
  replace h3 := (hs 3 rfl).trans h3
  replace h9 := (hs 9 rfl).trans h9
  replace h10 := (hs 10 rfl).trans h10
  replace h11 := (hs 11 rfl).trans h11
  have h12 : R 12 = .bool (decide (y5 < (p0.length : Int))) := hF' 0 _ _ rfl rfl rfl
  replace f_v0 := f_v0.fr hw
  replace hO := hO.fr hw
  replace hA := hA.fr hw.size
  replace hF := hF.trans hw
  clear hs hF' hw
  refine seqR_nil ?_
  refine HT.seq ?_
  refine HT.cond (decide (y5 < (p0.length : Int))) h12 (fun c7 => ?_) (fun c7 => ?_)
  ·have hr := cnd_t c7 hr
   refine HT.skip ?_
   refine HT.seq ?_
   refine HT.block ?_
   refine HT.seq ?_
   obtain ⟨e8, hr⟩ := ck_some hr
   refine HT.text (l := ⟨_, true, .qtr (eSl eStr) A (gtD p0 y5)⟩ :: ⟨_, true, .rep (eSl eStr) A (gtD p0 y5)⟩ :: ⟨_, true, .rep (eSl eStr) A (gtD p0 y5)⟩ :: []) (tl := []) (by kernel_rfl) (by kernel_rfl) (by kernel_rfl) ?_ ?_
   ·exact
     Obls.p (fun R' w' hw hs hd => by have ra0 := (f_v0.fr hw).eq ((hs 9 rfl).trans h9); exact of_indexAddr ra0 ((hs 11 rfl).trans h11) Try.underlying47 Try.sizeOf22 e8) <|
     Obls.p (fun R' w' hw hs hd => by have a0 : QRep (eSl eStr) A w' (R' 13) (gtD p0 y5) := hd.g 0 rfl; exact (of_load a0.ptr Try.isAgg22 Try.sizeOf22)) <|
     Obls.p (fun R' w' hw hs hd => by have a0 : Rep (eSl eStr) A w' (R' 14) (gtD p0 y5) := hd.g 0 rfl; exact of_assign a0) <|
     Obls.nil
   intro R w hw hs hF'
   replace h3 := (hs 3 rfl).trans h3
   replace h9 := (hs 9 rfl).trans h9
   replace h10 := (hs 10 rfl).trans h10
   replace h11 := (hs 11 rfl).trans h11
   obtain ⟨u9, h5, f_u9⟩ : ∃ u, R 5 = u ∧ Rep (eSl eStr) A w u (gtD p0 y5) := ⟨_, rfl, hF' 2 _ _ rfl rfl rfl⟩
   replace f_v0 := f_v0.fr hw
   replace hO := hO.fr hw
   replace hA := hA.fr hw.size
   replace hF := hF.trans hw
   clear hs hF' hw
   refine seqR_nil ?_
   obtain ⟨x10, q11, hr⟩ := cl_some hr
   obtain ⟨e12, hr⟩ := ck_some hr
   refine HT.textR [ob ul_u1 (.vec w0.heap.size 9 eStr y6)] (⟨_, true, [], none, true, fun A => .raw ul_u1⟩ :: ⟨_, true, [], none, true, fun A => .raw u9⟩ :: ⟨_, true, [], none, true, fun A => .rep (eSl eStr) A x10⟩ :: ⟨_, true, [0], some (.vec w0.heap.size 9 eStr (y6 ++ x10)), true, fun A => .any⟩ :: ⟨_, true, [4], some (.vec w0.heap.size 9 eStr (y6 ++ x10)), true, fun A => .any⟩ :: []) (by kernel_rfl) (by kernel_rfl) (Wf.mk' (by kernel_rfl) (UAll.cons ust_raw (UAll.cons ust_raw (UAll.cons ust_rep (UAll.cons ust_any (UAll.cons ust_any (UAll.nil)))))) (by kernel_rfl) (by kernel_rfl)) hO hA ?_ ?_
   ·exact
     OblsR.p (fun A' R' w' ho hd => of_move ((ho.old 3 rfl).trans h3)) <|
     OblsR.p (fun A' R' w' ho hd => of_move ((ho.old 5 rfl).trans h5)) <|
     OblsR.p (fun A' R' w' ho hd => by have a0 : R' 16 = u9 := hd.g 0 rfl; have ra0 := (f_u9.stp ho.stp).eq a0; exact of_call Try.call82 (M_impl_sortedSet_okR (q11 rfl) ho.av ra0)) <|
     OblsR.cons (OblR.took 0 _ _ rfl rfl rfl rfl rfl fun A' R' w' ho hd u hok hav hin hop hds => by have a0 : R' 15 = ul_u1 := hd.g 0 rfl; have a1 : Rep (eSl eStr) A' w' (R' 17) x10 := hd.g 1 rfl; exact took_append (a0.trans (hin _ rfl).symm) hok hav (Nat.le_trans hF.size ho.ch.size) a1 Try.underlying22 el_9 e12) <|
     OblsR.cons (OblR.took 4 _ _ rfl rfl rfl rfl rfl fun A' R' w' ho hd u hok hav hin hop hds => by exact took_assign (hop _ _ rfl rfl rfl rfl).symm hok hav) <|
     OblsR.nil
   intro done ρ σ A R w hdn hI
   replace h9 : R 9 = v0 := (hI.reg rfl).trans h9
   replace h10 : R 10 = .int .i64 (p0.length : Int) := (hI.reg rfl).trans h10
   replace h11 : R 11 = .int .i64 y5 := (hI.reg rfl).trans h11
   obtain ⟨u13, e_u13⟩ : ∃ u, ρ 5 = u := ⟨_, rfl⟩
   have h3 : R 3 = u13 := (hI.opvR hdn 5 4 rfl rfl rfl rfl rfl).symm.trans e_u13
   replace f_v0 := f_v0.stp hI.stp
   replace hAA := hI.low' hAA hA0 (hO.ge (⟨rfl, trivial⟩))
   replace hF : Fr w0 w := hF.tr hI.ch (hO.ge (⟨rfl, trivial⟩))
   replace hO : IniOK [ob u13 (.vec w0.heap.size 9 eStr (y6 ++ x10))] A w := hI.left hdn [(5, ob u13 (.vec w0.heap.size 9 eStr (y6 ++ x10)))] ⟨rfl, rfl, e_u13, rfl, rfl, trivial⟩
   replace hA := hI.avok
   clear hI
   obtain ⟨e14, hr⟩ := ck_some hr
   refine HT.text (l := ⟨_, true, .raw (.int .i64 (y5 + (1 : Int)))⟩ :: ⟨_, true, .raw (.int .i64 (y5 + (1 : Int)))⟩ :: []) (tl := []) (by kernel_rfl) (by kernel_rfl) (by kernel_rfl) ?_ ?_
   ·exact
     Obls.p (fun R' w' hw hs hd => of_add ((hs 11 rfl).trans h11) rfl e14) <|
     Obls.p (fun R' w' hw hs hd => by have a0 : R' 19 = .int .i64 (y5 + (1 : Int)) := hd.g 0 rfl; exact of_move a0) <|
     Obls.nil
   intro R w hw hs hF'
   replace h3 := (hs 3 rfl).trans h3
   replace h9 := (hs 9 rfl).trans h9
   replace h10 := (hs 10 rfl).trans h10
   have h11 : R 11 = .int .i64 (y5 + (1 : Int)) := hF' 1 _ _ rfl rfl rfl
   replace f_v0 := f_v0.fr hw
   replace hO := hO.fr hw
   replace hA := hA.fr hw.size
   replace hF := hF.trans hw
   clear hs hF' hw
   refine seqR_nil ?_
   exact Exists.intro k (And.intro (Nat.lt_succ_self k) ⟨_, _, _, u13, hr, hA, hF, hAA, hO, h3, h9, h10, h11, f_v0⟩)
  ·have hr := cnd_f c7 hr
   refine HT.exit ?_
   obtain rfl := Option.some.inj hr
   exact Exists.intro _ ⟨_, ul_u1, rfl, hA, hF, hAA, hO, h3⟩
 rintro R w ⟨A, s4, uo_u1, es, hA, hF, hAA, hO, h3⟩
 obtain rfl := es.symm
 refine HT.seq ?_
 obtain ⟨x15, q16, hr⟩ := cl_some hr
 refine HT.textR [ob uo_u1 (.vec w0.heap.size 9 eStr s4)] (⟨_, true, [], none, true, fun A => .raw uo_u1⟩ :: ⟨_, true, [0], some (.vec w0.heap.size 9 eStr x15), false, fun A => .any⟩ :: []) (by kernel_rfl) (by kernel_rfl) (Wf.mk' (by kernel_rfl) (UAll.cons ust_raw (UAll.cons ust_any (UAll.nil))) (by kernel_rfl) (by kernel_rfl)) hO hA ?_ ?_
 ·exact
   OblsR.p (fun A' R' w' ho hd => of_move ((ho.old 3 rfl).trans h3)) <|
   OblsR.cons (OblR.took 0 _ _ rfl rfl rfl rfl rfl fun A' R' w' ho hd u hok hav hin hop hds => by have a0 : R' 20 = uo_u1 := hd.g 0 rfl; have hu0 : evalR R' (.tmp 20) = u := a0.trans (hin _ rfl).symm; exact took_call Try.call83 hav (fun _ _ _ _ _ h => h) (by simp only [List.map, hu0]; exact Calls.mono (M_sortS_ok (q16 rfl) (ho.av.sub _) (fun b o h => h.2) (Vec.flat hok (fun _ _ _ _ _ h => h))) (fun _ _ ⟨v, h1, h2, h3, h4⟩ => ⟨v, h1, trivial, h3, h4⟩))) <|
   OblsR.nil
 intro done ρ σ A R w hdn hI
 replace h3 : R 3 = uo_u1 := (hI.reg rfl).trans h3
 have z17 := hI.inivR 0 rfl
 have z18 := (hI.opnR hdn 2 1 rfl rfl rfl rfl rfl).trans z17
 replace hAA := hI.low' hAA hA0 (hO.ge (⟨rfl, trivial⟩))
 replace hF : Fr w0 w := hF.tr hI.ch (hO.ge (⟨rfl, trivial⟩))
 replace hO : IniOK [ob uo_u1 (.vec w0.heap.size 9 eStr x15)] A w := hI.left hdn [(2, ob uo_u1 (.vec w0.heap.size 9 eStr x15))] ⟨rfl, rfl, z18, rfl, rfl, trivial⟩
 replace hA := hI.avok
 clear hI
 refine HT.seq ?_
 refine HT.text (l := ⟨_, true, .raw (.slice none 0 0)⟩ :: []) (tl := []) (by kernel_rfl) (by kernel_rfl) (by kernel_rfl) ?_ ?_
 ·exact
   Obls.p (fun R' w' hw hs hd => of_assign rfl) <|
   Obls.nil
 intro R w hw hs hF'
 replace h3 := (hs 3 rfl).trans h3
 obtain ⟨u19, n_u19⟩ : ∃ u, u = Value.slice none 0 0 := ⟨_, rfl⟩
 have h6 : R 6 = u19 := (hF' 0 _ _ rfl rfl rfl).trans n_u19.symm
 replace hO := hO.fr hw
 replace hA := hA.fr hw.size
 replace hF := hF.trans hw
 clear hs hF' hw
 refine seqR_nil ?_
 replace hO := hO.nilcons (u := u19) n_u19 w0.heap.size 52 E_impl_TokenCount
 refine HT.seq ?_
 refine HT.seq ?_
 refine HT.text (l := ⟨_, true, .raw uo_u1⟩ :: ⟨_, true, .raw (.int .i64 (x15.length : Int))⟩ :: ⟨_, true, .raw (.int .i64 (0 : Int))⟩ :: []) (tl := []) (by kernel_rfl) (by kernel_rfl) (by kernel_rfl) ?_ ?_
 ·exact
   Obls.p (fun R' w' hw hs hd => of_move ((hs 3 rfl).trans h3)) <|
   Obls.p (fun R' w' hw hs hd => by have a0 : R' 22 = uo_u1 := hd.g 0 rfl; exact of_len_vec (hO.ok 1 _ rfl).1 a0 Try.underlying22) <|
   Obls.p (fun R' w' hw hs hd => of_move rfl) <|
   Obls.nil
 intro R w hw hs hF'
 replace h3 := (hs 3 rfl).trans h3
 replace h6 := (hs 6 rfl).trans h6
 have h22 : R 22 = uo_u1 := hF' 0 _ _ rfl rfl rfl
 have h23 : R 23 = .int .i64 (x15.length : Int) := hF' 1 _ _ rfl rfl rfl
 have h24 : R 24 = .int .i64 (0 : Int) := hF' 2 _ _ rfl rfl rfl
 replace hO := hO.fr hw
 replace hA := hA.fr hw.size
 replace hF := hF.trans hw
 clear hs hF' hw
 refine seqR_nil ?_
 obtain ⟨rl20, q21, hr⟩ := cl_some hr
 replace q21 := q21 rfl
 refine HT.cut0 (fun R w => ∃ A : Av, ∃ (s22 : (List T_impl_TokenCount)) (uo_u19 : Value), rl20 = s22 ∧ AvOK A w ∧ Fr w0 w ∧ (∀ b o, A0 b o → A b o) ∧ IniOK [ob uo_u19 (.vec w0.heap.size 52 E_impl_TokenCount s22)] A w ∧ R 6 = uo_u19) ?_ ?_
 ·refine HT.block ?_
  refine HT.loop (fun k R w => ∃ A : Av, ∃ (y23 : Int) (y24 : List T_impl_TokenCount) (ul_u19 : Value), M_impl_CountTokens_L1 fu x15 k y23 y24 = some rl20 ∧ AvOK A w ∧ Fr w0 w ∧ (∀ b o, A0 b o → A b o) ∧ IniOK [ob ul_u19 (.vec w0.heap.size 52 E_impl_TokenCount y24), ob uo_u1 (.vec w0.heap.size 9 eStr x15)] A w ∧ R 3 = uo_u1 ∧ R 6 = ul_u19 ∧ R 22 = uo_u1 ∧ R 23 = .int .i64 (x15.length : Int) ∧ R 24 = .int .i64 y23) fu ⟨_, _, _, u19, q21, hA, hF, hAA, hO, h3, h6, h22, h23, h24⟩ ?_
  have hr0 := hr; clear hr q21
  rintro k R w ⟨A, y23, y24, ul_u19, hr, hA, hF, hAA, hO, h3, h6, h22, h23, h24⟩
  rcases k with _ | k
  ·cases (show none = some _ from hr)
  rw [M_impl_CountTokens_L1] at hr
  refine HT.seq ?_
  refine HT.text (l := ⟨_, true, .raw (.bool (decide (y23 < (x15.length : Int))))⟩ :: []) (tl := []) (by kernel_rfl) (by kernel_rfl) (by kernel_rfl) ?_ ?_
  ·exact
    Obls.p (fun R' w' hw hs hd => of_lss ((hs 24 rfl).trans h24) ((hs 23 rfl).trans h23)) <|
    Obls.nil
  intro R w hw hs hF'
  replace h3 := (hs 3 rfl).trans h3
  replace h6 := (hs 6 rfl).trans h6
  replace h22 := (hs 22 rfl).trans h22
  replace h23 := (hs 23 rfl).trans h23
  replace h24 := (hs 24 rfl).trans h24
  have h25 : R 25 = .bool (decide (y23 < (x15.length : Int))) := hF' 0 _ _ rfl rfl rfl
  replace hO := hO.fr hw
  replace hA := hA.fr hw.size
  replace hF := hF.trans hw
  clear hs hF' hw
  refine seqR_nil ?_
  refine HT.seq ?_
  refine HT.cond (decide (y23 < (x15.length : Int))) h25 (fun c25 => ?_) (fun c25 => ?_)
  ·have hr := cnd_t c25 hr
   refine HT.skip ?_
   refine HT.seq ?_
   refine HT.block ?_
   refine HT.seq ?_
   obtain ⟨e26, hr⟩ := ck_some hr
   refine HT.text (l := ⟨_, true, .raw (.int .i64 y23)⟩ :: ⟨_, true, .raw (vptr uo_u1 (y23.toNat * 1))⟩ :: ⟨_, true, .rep eStr A (gtD x15 y23)⟩ :: ⟨_, true, .raw (.int .i64 y23)⟩ :: ⟨_, true, .rep eStr A (gtD x15 y23)⟩ :: []) (tl := []) (by kernel_rfl) (by kernel_rfl) (by kernel_rfl) ?_ ?_
   ·exact
     Obls.p (fun R' w' hw hs hd => of_move ((hs 24 rfl).trans h24)) <|
     Obls.p (fun R' w' hw hs hd => of_indexAddr_vec (hO.ok 1 _ rfl).1 ((hs 22 rfl).trans h22) ((hs 24 rfl).trans h24) Try.underlying22 Try.sizeOf9 e26 rfl) <|
     Obls.p (fun R' w' hw hs hd => by have a0 : R' 27 = (vptr uo_u1 (y23.toNat * 1)) := hd.g 0 rfl; exact (of_load_vec ((hO.fr hw).ok 1 _ rfl).1 a0 e26 rfl (Fld.id _) rfl Try.isAgg9 Try.sizeOf9)) <|
     Obls.p (fun R' w' hw hs hd => by have a0 : R' 26 = .int .i64 y23 := hd.g 0 rfl; exact of_assign a0) <|
     Obls.p (fun R' w' hw hs hd => by have a0 : Rep eStr A w' (R' 28) (gtD x15 y23) := hd.g 0 rfl; exact of_assign a0) <|
     Obls.nil
   intro R w hw hs hF'
   replace h3 := (hs 3 rfl).trans h3
   replace h6 := (hs 6 rfl).trans h6
   replace h22 := (hs 22 rfl).trans h22
   replace h23 := (hs 23 rfl).trans h23
   replace h24 := (hs 24 rfl).trans h24
   have h7 : R 7 = .int .i64 y23 := hF' 3 _ _ rfl rfl rfl
   obtain ⟨u27, h8, f_u27⟩ : ∃ u, R 8 = u ∧ Rep eStr A w u (gtD x15 y23) := ⟨_, rfl, hF' 4 _ _ rfl rfl rfl⟩
   replace hO := hO.fr hw
   replace hA := hA.fr hw.size
   replace hF := hF.trans hw
   clear hs hF' hw
   refine seqR_nil ?_
   refine HT.seq ?_
   obtain ⟨e28, hr⟩ := ck_some hr
   obtain ⟨e29, hr⟩ := ck_some hr
   obtain ⟨x30, q31, hr⟩ := bd_some hr
   refine HT.text (l := ⟨_, true, .raw (.int .i64 y23)⟩ :: ⟨_, true, .raw (.bool (decide ((0 : Int) < y23)))⟩ :: ⟨_, true, .raw (.bool (decide ((0 : Int) < y23)))⟩ :: ⟨_, (true && ((decide ((0 : Int) < y23)) == true)), .raw uo_u1⟩ :: ⟨_, (true && ((decide ((0 : Int) < y23)) == true)), .raw (.int .i64 y23)⟩ :: ⟨_, (true && ((decide ((0 : Int) < y23)) == true)), .raw (.int .i64 (y23 - (1 : Int)))⟩ :: ⟨_, (true && ((decide ((0 : Int) < y23)) == true)), .raw (vptr uo_u1 ((y23 - (1 : Int)).toNat * 1))⟩ :: ⟨_, (true && ((decide ((0 : Int) < y23)) == true)), .rep eStr A (gtD x15 (y23 - (1 : Int)))⟩ :: ⟨_, (true && ((decide ((0 : Int) < y23)) == true)), .raw u27⟩ :: ⟨_, (true && ((decide ((0 : Int) < y23)) == true)), .raw (.bool ((gtD x15 (y23 - (1 : Int))) == (gtD x15 y23)))⟩ :: ⟨_, true, .raw (.bool x30)⟩ :: []) (tl := []) (by kernel_rfl) (by kernel_rfl) (by kernel_rfl) ?_ ?_
   ·exact
     Obls.p (fun R' w' hw hs hd => of_move ((hs 7 rfl).trans h7)) <|
     Obls.p (fun R' w' hw hs hd => by have a0 : R' 29 = .int .i64 y23 := hd.g 0 rfl; exact of_gtr a0 rfl) <|
     Obls.p (fun R' w' hw hs hd => by have a0 : R' 30 = .bool (decide ((0 : Int) < y23)) := hd.g 0 rfl; exact of_move a0) <|
     Obls.cons (Obl.grd 2 true _ _ _ rfl rfl rfl rfl rfl (by kernel_rfl) fun hg R' w' hw hs hd => by have a0 : R' 3 = uo_u1 := (hs 3 rfl).trans h3; exact of_move a0) <|
     Obls.cons (Obl.grd 2 true _ _ _ rfl rfl rfl rfl rfl (by kernel_rfl) fun hg R' w' hw hs hd => by have a0 : R' 7 = .int .i64 y23 := (hs 7 rfl).trans h7; exact of_move a0) <|
     Obls.cons (Obl.grd 2 true _ _ _ rfl rfl rfl rfl rfl (by kernel_rfl) fun hg R' w' hw hs hd => by have a0 : R' 33 = .int .i64 y23 := hd 0 _ _ _ rfl rfl rfl rfl hg; exact of_sub a0 rfl (gd e28 hg)) <|
     Obls.cons (Obl.grd 2 true _ _ _ rfl rfl rfl rfl rfl (by kernel_rfl) fun hg R' w' hw hs hd => by have a0 : R' 32 = uo_u1 := hd 0 _ _ _ rfl rfl rfl rfl hg; have a1 : R' 34 = .int .i64 (y23 - (1 : Int)) := hd 1 _ _ _ rfl rfl rfl rfl hg; exact of_indexAddr_vec (hO.ok 1 _ rfl).1 a0 a1 Try.underlying22 Try.sizeOf9 (gd e29 hg) rfl) <|
     Obls.cons (Obl.grd 2 true _ _ _ rfl rfl rfl rfl rfl (by kernel_rfl) fun hg R' w' hw hs hd => by have a0 : R' 35 = (vptr uo_u1 ((y23 - (1 : Int)).toNat * 1)) := hd 0 _ _ _ rfl rfl rfl rfl hg; exact (of_load_vec ((hO.fr hw).ok 1 _ rfl).1 a0 (gd e29 hg) rfl (Fld.id _) rfl Try.isAgg9 Try.sizeOf9)) <|
     Obls.cons (Obl.grd 2 true _ _ _ rfl rfl rfl rfl rfl (by kernel_rfl) fun hg R' w' hw hs hd => by have a0 : R' 8 = u27 := (hs 8 rfl).trans h8; exact of_move a0) <|
     Obls.cons (Obl.grd 2 true _ _ _ rfl rfl rfl rfl rfl (by kernel_rfl) fun hg R' w' hw hs hd => by have a0 : Rep eStr A w' (R' 36) (gtD x15 (y23 - (1 : Int))) := hd 0 _ _ _ rfl rfl rfl rfl hg; have a1 : R' 37 = u27 := hd 1 _ _ _ rfl rfl rfl rfl hg; have ra1 := (f_u27.fr hw).eq a1; exact of_seql a0 ra1) <|
     Obls.p (fun R' w' hw hs hd => by have a0 : R' 31 = .bool (decide ((0 : Int) < y23)) := hd.g 0 rfl; exact of_pick (decide ((0 : Int) < y23)) a0 (fun hc => by have a1 : R' 38 = .bool ((gtD x15 (y23 - (1 : Int))) == (gtD x15 y23)) := hd 1 _ _ _ rfl rfl rfl rfl (g_and rfl (beq_of hc)); show _ = Value.bool x30; rw [q31, hc]; exact a1) (fun hc => by show _ = Value.bool x30; rw [q31, hc]; exact rfl)) <|
     Obls.nil
   intro R w hw hs hF'
   replace h3 := (hs 3 rfl).trans h3
   replace h6 := (hs 6 rfl).trans h6
   replace h8 := (hs 8 rfl).trans h8
   replace h22 := (hs 22 rfl).trans h22
   replace h23 := (hs 23 rfl).trans h23
   replace h24 := (hs 24 rfl).trans h24
   have h39 : R 39 = .bool x30 := hF' 10 _ _ rfl rfl rfl
   replace f_u27 := f_u27.fr hw
   replace hO := hO.fr hw
   replace hA := hA.fr hw.size
   replace hF := hF.trans hw
   clear hs hF' hw
   refine seqR_nil ?_
   refine HT.cond x30 h39 (fun c32 => ?_) (fun c32 => ?_)
   ·have hr := cnd_t c32 hr
    obtain ⟨e33, hr⟩ := ck_some hr
    obtain ⟨e34, hr⟩ := ck_some hr
    obtain ⟨e35, hr⟩ := ck_some hr
    obtain ⟨e36, hr⟩ := ck_some hr
    refine HT.textR [ob ul_u19 (.vec w0.heap.size 52 E_impl_TokenCount y24), ob uo_u1 (.vec w0.heap.size 9 eStr x15)] (⟨_, true, [], none, true, fun A => .raw ul_u19⟩ :: ⟨_, true, [], none, true, fun A => .raw ul_u19⟩ :: ⟨_, true, [], none, true, fun A => .raw (.int .i64 (y24.length : Int))⟩ :: ⟨_, true, [], none, true, fun A => .raw (.int .i64 ((y24.length : Int) - (1 : Int)))⟩ :: ⟨_, true, [], none, true, fun A => .raw (vptr ul_u19 (((y24.length : Int) - (1 : Int)).toNat * 2))⟩ :: ⟨_, true, [], none, true, fun A => .raw (vptr ul_u19 (((y24.length : Int) - (1 : Int)).toNat * 2 + 1))⟩ :: ⟨_, true, [], none, true, fun A => .raw (.int .i64 ((gtD y24 ((y24.length : Int) - (1 : Int))).2))⟩ :: ⟨_, true, [], none, true, fun A => .raw (.int .i64 (((gtD y24 ((y24.length : Int) - (1 : Int))).2) + (1 : Int)))⟩ :: ⟨_, true, [], none, true, fun A => .raw (vptr ul_u19 (((y24.length : Int) - (1 : Int)).toNat * 2))⟩ :: ⟨_, true, [], none, true, fun A => .raw (vptr ul_u19 (((y24.length : Int) - (1 : Int)).toNat * 2 + 1))⟩ :: ⟨_, true, [0], some (.vec w0.heap.size 52 E_impl_TokenCount (y24.set ((y24.length : Int) - (1 : Int)).toNat ((gtD y24 ((y24.length : Int) - (1 : Int))).1, (((gtD y24 ((y24.length : Int) - (1 : Int))).2) + (1 : Int))))), false, fun A => .any⟩ :: []) (by kernel_rfl) (by kernel_rfl) (Wf.mk' (by kernel_rfl) (UAll.cons ust_raw (UAll.cons ust_raw (UAll.cons ust_raw (UAll.cons ust_raw (UAll.cons ust_raw (UAll.cons ust_raw (UAll.cons ust_raw (UAll.cons ust_raw (UAll.cons ust_raw (UAll.cons ust_raw (UAll.cons ust_any (UAll.nil)))))))))))) (by kernel_rfl) (by kernel_rfl)) hO hA ?_ ?_
    ·exact
      OblsR.p (fun A' R' w' ho hd => of_move ((ho.old 6 rfl).trans h6)) <|
      OblsR.p (fun A' R' w' ho hd => of_move ((ho.old 6 rfl).trans h6)) <|
      OblsR.p (fun A' R' w' ho hd => by have a0 : R' 41 = ul_u19 := hd.g 0 rfl; exact of_len_vec (hO.ok 0 _ rfl).1 a0 Try.underlying42) <|
      OblsR.p (fun A' R' w' ho hd => by have a0 : R' 42 = .int .i64 (y24.length : Int) := hd.g 0 rfl; exact of_sub a0 rfl e33) <|
      OblsR.p (fun A' R' w' ho hd => by have a0 : R' 40 = ul_u19 := hd.g 0 rfl; have a1 : R' 43 = .int .i64 ((y24.length : Int) - (1 : Int)) := hd.g 1 rfl; exact of_indexAddr_vec (hO.ok 0 _ rfl).1 a0 a1 Try.underlying42 Try.sizeOf52 e34 rfl) <|
      OblsR.p (fun A' R' w' ho hd => by have a0 : R' 44 = (vptr ul_u19 (((y24.length : Int) - (1 : Int)).toNat * 2)) := hd.g 0 rfl; exact of_fieldAddr_vec (ho.rd 0 _ rfl rfl) (inR_ne e34) a0 ff_52_1 Try.sizeOf3 (by decide) rfl) <|
      OblsR.p (fun A' R' w' ho hd => by have a0 : R' 45 = (vptr ul_u19 (((y24.length : Int) - (1 : Int)).toNat * 2 + 1)) := hd.g 0 rfl; exact OpF.int (of_load_vec (ho.rd 0 _ rfl rfl) a0 e34 rfl fl_impl_TokenCount_1 rfl Try.isAgg3 Try.sizeOf3)) <|
      OblsR.p (fun A' R' w' ho hd => by have a0 : R' 46 = .int .i64 ((gtD y24 ((y24.length : Int) - (1 : Int))).2) := hd.g 0 rfl; exact of_add a0 rfl e35) <|
      OblsR.p (fun A' R' w' ho hd => by have a0 : R' 40 = ul_u19 := hd.g 0 rfl; have a1 : R' 43 = .int .i64 ((y24.length : Int) - (1 : Int)) := hd.g 1 rfl; exact of_indexAddr_vec (hO.ok 0 _ rfl).1 a0 a1 Try.underlying42 Try.sizeOf52 e36 rfl) <|
      OblsR.p (fun A' R' w' ho hd => by have a0 : R' 48 = (vptr ul_u19 (((y24.length : Int) - (1 : Int)).toNat * 2)) := hd.g 0 rfl; exact of_fieldAddr_vec (ho.rd 0 _ rfl rfl) (inR_ne e36) a0 ff_52_1 Try.sizeOf3 (by decide) rfl) <|
      OblsR.cons (OblR.took 0 _ _ rfl rfl rfl rfl rfl fun A' R' w' ho hd u hok hav hin hop hds => by have a0 : R' 49 = (vptr ul_u19 (((y24.length : Int) - (1 : Int)).toNat * 2 + 1)) := hd.g 0 rfl; have a1 : R' 47 = .int .i64 (((gtD y24 ((y24.length : Int) - (1 : Int))).2) + (1 : Int)) := hd.g 1 rfl; obtain rfl := hin _ rfl; exact took_vstore (rep_int.eq a1) hok hav a0 e36 rfl fs_impl_TokenCount_1 Try.sizeOf3 rfl) <|
      OblsR.nil
    intro done ρ σ A R w hdn hI
    replace h3 : R 3 = uo_u1 := (hI.reg rfl).trans h3
    replace h6 : R 6 = ul_u19 := (hI.reg rfl).trans h6
    replace h22 : R 22 = uo_u1 := (hI.reg rfl).trans h22
    replace h23 : R 23 = .int .i64 (x15.length : Int) := (hI.reg rfl).trans h23
    replace h24 : R 24 = .int .i64 y23 := (hI.reg rfl).trans h24
    have z37 := hI.inivR 0 rfl
    have z38 := (hI.opnR hdn 12 10 rfl rfl rfl rfl rfl).trans z37
    have z39 := hI.inivR 1 rfl
    replace hAA := hI.low' hAA hA0 (hO.ge (⟨rfl, ⟨rfl, trivial⟩⟩))
    replace hF : Fr w0 w := hF.tr hI.ch (hO.ge (⟨rfl, ⟨rfl, trivial⟩⟩))
    replace hO : IniOK [ob ul_u19 (.vec w0.heap.size 52 E_impl_TokenCount (y24.set ((y24.length : Int) - (1 : Int)).toNat ((gtD y24 ((y24.length : Int) - (1 : Int))).1, (((gtD y24 ((y24.length : Int) - (1 : Int))).2) + (1 : Int))))), ob uo_u1 (.vec w0.heap.size 9 eStr x15)] A w := hI.left hdn [(12, ob ul_u19 (.vec w0.heap.size 52 E_impl_TokenCount (y24.set ((y24.length : Int) - (1 : Int)).toNat ((gtD y24 ((y24.length : Int) - (1 : Int))).1, (((gtD y24 ((y24.length : Int) - (1 : Int))).2) + (1 : Int)))))), (1, ob uo_u1 (.vec w0.heap.size 9 eStr x15))] ⟨rfl, rfl, z38, rfl, rfl, ⟨rfl, rfl, z39, rfl, rfl, trivial⟩⟩
    replace hA := hI.avok
    clear hI
    obtain ⟨e40, hr⟩ := ck_some hr
    refine HT.text (l := ⟨_, true, .raw (.int .i64 (y23 + (1 : Int)))⟩ :: ⟨_, true, .raw (.int .i64 (y23 + (1 : Int)))⟩ :: []) (tl := []) (by kernel_rfl) (by kernel_rfl) (by kernel_rfl) ?_ ?_
    ·exact
      Obls.p (fun R' w' hw hs hd => of_add ((hs 24 rfl).trans h24) rfl e40) <|
      Obls.p (fun R' w' hw hs hd => by have a0 : R' 55 = .int .i64 (y23 + (1 : Int)) := hd.g 0 rfl; exact of_move a0) <|
      Obls.nil
    intro R w hw hs hF'
    replace h3 := (hs 3 rfl).trans h3
    replace h6 := (hs 6 rfl).trans h6
    replace h22 := (hs 22 rfl).trans h22
    replace h23 := (hs 23 rfl).trans h23
    have h24 : R 24 = .int .i64 (y23 + (1 : Int)) := hF' 1 _ _ rfl rfl rfl
    replace hO := hO.fr hw
    replace hA := hA.fr hw.size
    replace hF := hF.trans hw
    clear hs hF' hw
    refine seqR_nil ?_
    exact Exists.intro k (And.intro (Nat.lt_succ_self k) ⟨_, _, _, ul_u19, hr, hA, hF, hAA, hO, h3, h6, h22, h23, h24⟩)
   ·have hr := cnd_f c32 hr
    obtain ⟨e42, hr⟩ := ck_some hr
    refine HT.textR [ob ul_u19 (.vec w0.heap.size 52 E_impl_TokenCount y24), ob uo_u1 (.vec w0.heap.size 9 eStr x15)] (⟨_, true, [], none, true, fun A => .raw ul_u19⟩ :: ⟨_, true, [], none, true, fun A => .raw u27⟩ :: ⟨_, true, [], none, true, fun A => .rep E_impl_TokenCount A ((gtD x15 y23), (1 : Int))⟩ :: ⟨_, true, [], none, true, fun A => .rep (eSl E_impl_TokenCount) A ([((gtD x15 y23), (1 : Int))] : List T_impl_TokenCount)⟩ :: ⟨_, true, [0], some (.vec w0.heap.size 52 E_impl_TokenCount (y24 ++ ([((gtD x15 y23), (1 : Int))] : List T_impl_TokenCount))), true, fun A => .any⟩ :: ⟨_, true, [6], some (.vec w0.heap.size 52 E_impl_TokenCount (y24 ++ ([((gtD x15 y23), (1 : Int))] : List T_impl_TokenCount))), true, fun A => .any⟩ :: []) (by kernel_rfl) (by kernel_rfl) (Wf.mk' (by kernel_rfl) (UAll.cons ust_raw (UAll.cons ust_raw (UAll.cons ust_rep (UAll.cons ust_rep (UAll.cons ust_any (UAll.cons ust_any (UAll.nil))))))) (by kernel_rfl) (by kernel_rfl)) hO hA ?_ ?_
    ·exact
      OblsR.p (fun A' R' w' ho hd => of_move ((ho.old 6 rfl).trans h6)) <|
      OblsR.p (fun A' R' w' ho hd => of_move ((ho.old 8 rfl).trans h8)) <|
      OblsR.p (fun A' R' w' ho hd => by have a0 : R' 51 = u27 := hd.g 0 rfl; have ra0 := (f_u27.stp ho.stp).eq a0; obtain ⟨c41s, c41, c41r⟩ := rep_str_val ra0; exact of_build_raw (v := .agg #[.string c41s, .int .i64 (1 : Int)]) (by simp [execOp, Instr.build, evalR, c41, underlying, Try.underlying52, Try.zeroValue52, Try.sizeOf3, Try.sizeOf9, go_sem, Instr.fill]) ⟨_, rfl, rep_pr c41r rep1_int⟩) <|
      OblsR.p (fun A' R' w' ho hd => by have a0 : Rep E_impl_TokenCount A' w' (R' 52) ((gtD x15 y23), (1 : Int)) := hd.g 0 rfl; exact of_build [_] (E := E_impl_TokenCount) ⟨a0, trivial⟩ Try.underlying42 Try.sizeOf52 Try.zeroValue52 rfl rfl rfl ho.av) <|
      OblsR.cons (OblR.took 0 _ _ rfl rfl rfl rfl rfl fun A' R' w' ho hd u hok hav hin hop hds => by have a0 : R' 50 = ul_u19 := hd.g 0 rfl; have a1 : Rep (eSl E_impl_TokenCount) A' w' (R' 53) ([((gtD x15 y23), (1 : Int))] : List T_impl_TokenCount) := hd.g 1 rfl; exact took_append (a0.trans (hin _ rfl).symm) hok hav (Nat.le_trans hF.size ho.ch.size) a1 Try.underlying42 el_52 e42) <|
      OblsR.cons (OblR.took 6 _ _ rfl rfl rfl rfl rfl fun A' R' w' ho hd u hok hav hin hop hds => by exact took_assign (hop _ _ rfl rfl rfl rfl).symm hok hav) <|
      OblsR.nil
    intro done ρ σ A R w hdn hI
    replace h3 : R 3 = uo_u1 := (hI.reg rfl).trans h3
    replace h22 : R 22 = uo_u1 := (hI.reg rfl).trans h22
    replace h23 : R 23 = .int .i64 (x15.length : Int) := (hI.reg rfl).trans h23
    replace h24 : R 24 = .int .i64 y23 := (hI.reg rfl).trans h24
    obtain ⟨u43, e_u43⟩ : ∃ u, ρ 7 = u := ⟨_, rfl⟩
    have h6 : R 6 = u43 := (hI.opvR hdn 7 5 rfl rfl rfl rfl rfl).symm.trans e_u43
    have z44 := hI.inivR 1 rfl
    replace hAA := hI.low' hAA hA0 (hO.ge (⟨rfl, ⟨rfl, trivial⟩⟩))
    replace hF : Fr w0 w := hF.tr hI.ch (hO.ge (⟨rfl, ⟨rfl, trivial⟩⟩))
    replace hO : IniOK [ob u43 (.vec w0.heap.size 52 E_impl_TokenCount (y24 ++ ([((gtD x15 y23), (1 : Int))] : List T_impl_TokenCount))), ob uo_u1 (.vec w0.heap.size 9 eStr x15)] A w := hI.left hdn [(7, ob u43 (.vec w0.heap.size 52 E_impl_TokenCount (y24 ++ ([((gtD x15 y23), (1 : Int))] : List T_impl_TokenCount)))), (1, ob uo_u1 (.vec w0.heap.size 9 eStr x15))] ⟨rfl, rfl, e_u43, rfl, rfl, ⟨rfl, rfl, z44, rfl, rfl, trivial⟩⟩
    replace hA := hI.avok
    clear hI
    obtain ⟨e45, hr⟩ := ck_some hr
    refine HT.text (l := ⟨_, true, .raw (.int .i64 (y23 + (1 : Int)))⟩ :: ⟨_, true, .raw (.int .i64 (y23 + (1 : Int)))⟩ :: []) (tl := []) (by kernel_rfl) (by kernel_rfl) (by kernel_rfl) ?_ ?_
    ·exact
      Obls.p (fun R' w' hw hs hd => of_add ((hs 24 rfl).trans h24) rfl e45) <|
      Obls.p (fun R' w' hw hs hd => by have a0 : R' 55 = .int .i64 (y23 + (1 : Int)) := hd.g 0 rfl; exact of_move a0) <|
      Obls.nil
    intro R w hw hs hF'
    replace h3 := (hs 3 rfl).trans h3
    replace h6 := (hs 6 rfl).trans h6
    replace h22 := (hs 22 rfl).trans h22
    replace h23 := (hs 23 rfl).trans h23
    have h24 : R 24 = .int .i64 (y23 + (1 : Int)) := hF' 1 _ _ rfl rfl rfl
    replace hO := hO.fr hw
    replace hA := hA.fr hw.size
    replace hF := hF.trans hw
    clear hs hF' hw
    refine seqR_nil ?_
    exact Exists.intro k (And.intro (Nat.lt_succ_self k) ⟨_, _, _, u43, hr, hA, hF, hAA, hO, h3, h6, h22, h23, h24⟩)
  ·have hr := cnd_f c25 hr
   refine HT.exit ?_
   obtain rfl := Option.some.inj hr
   replace hO : IniOK [ob ul_u19 (.vec w0.heap.size 52 E_impl_TokenCount y24)] A w := hO.sub [(0, ob ul_u19 (.vec w0.heap.size 52 E_impl_TokenCount y24))] ⟨rfl, rfl, trivial⟩
   exact Exists.intro _ ⟨_, ul_u19, rfl, hA, hF, hAA, hO, h6⟩
 rintro R w ⟨A, s22, uo_u19, es, hA, hF, hAA, hO, h6⟩
 obtain rfl := es.symm
 refine HT.seq ?_
 refine HT.text (l := ⟨_, true, .raw uo_u19⟩ :: ⟨_, true, .raw uo_u19⟩ :: []) (tl := []) (by kernel_rfl) (by kernel_rfl) (by kernel_rfl) ?_ ?_
 ·exact
   Obls.p (fun R' w' hw hs hd => of_move ((hs 6 rfl).trans h6)) <|
   Obls.p (fun R' w' hw hs hd => by have a0 : R' 56 = uo_u19 := hd.g 0 rfl; exact of_assign a0) <|
   Obls.nil
 intro R w hw hs hF'
 have h2 : R 2 = uo_u19 := hF' 1 _ _ rfl rfl rfl
 replace hO := hO.fr hw
 replace hA := hA.fr hw.size
 replace hF := hF.trans hw
 clear hs hF' hw
 refine seqR_nil ?_
 refine HT.ret ?_
 obtain rfl := Option.some.inj hr
 exact ⟨.inr rfl, [R 2], ⟨rfl, trivial⟩, (own_post (hO.ok 0 _ rfl) hAA h2), hF⟩
theorem M_impl_CountTokens_okR {fu : Nat} {A0 : Av} {p0 : List (List (List UInt8))} {r : List T_impl_TokenCount} (hr : M_impl_CountTokens fu p0 = some r) {w : World} {v0 : Value} (hA : AvOK A0 w) (h0 : Rep (eSl (eSl eStr)) A0 w v0 p0) :
  Calls Try.prog 39 #[v0] w fun e w' => ∃ v, e = .returned v ∧ (Rep (eSl E_impl_TokenCount) A0 w' v r ∧ Fr w w') := by
 refine Calls.mono (M_impl_CountTokens_ok hr hA h0) ?_
 rintro e w' ⟨v, he, hv, hf⟩
 exact ⟨v, he, vec_rep hv (fun b o h => .inl h) hA, hf⟩
def M_impl_IsTokenTable_L0 (fu : Nat) (p0 : List T_impl_TokenCount) : Nat → Int → Option (Ex Bool Unit)
 | 0, _ => none
 | k + 1, y4 =>
  bif (decide (y4 < (p0.length : Int))) then (
   ck (inR y4 p0.length) <|
   ck (!((true && ((decide (((gtD p0 y4).2) < (1 : Int))) == false)) && ((decide ((0 : Int) < y4)) == true)) || i64B (y4 - (1 : Int))) <|
   ck (!((true && ((decide (((gtD p0 y4).2) < (1 : Int))) == false)) && ((decide ((0 : Int) < y4)) == true)) || inR (y4 - (1 : Int)) p0.length) <|
   bd ((decide ((0 : Int) < y4)) && (!(bLt ((gtD p0 (y4 - (1 : Int))).1) ((gtD p0 y4).1)))) fun x11 =>
   bd ((decide (((gtD p0 y4).2) < (1 : Int))) || x11) fun x13 =>
   bif x13 then (
    some (Ex.ret false)
   ) else (
    ck (i64B (y4 + (1 : Int))) <|
    M_impl_IsTokenTable_L0 fu p0 k (y4 + (1 : Int))
   )
  ) else (
   some (Ex.go ())
  )
def M_impl_IsTokenTable (fu : Nat) (p0 : List T_impl_TokenCount) : Option Bool :=
 cl true (M_impl_IsTokenTable_L0 fu p0 fu (0 : Int)) fun rl1 =>
 exM rl1 (fun r => some r) fun s3 =>
 some true
theorem M_impl_IsTokenTable_ok {fu : Nat} {A0 : Av} {p0 : List T_impl_TokenCount} {r : Bool} (hr : M_impl_IsTokenTable fu p0 = some r) {w : World} {v0 : Value} (hA : AvOK A0 w) (h0 : Rep (eSl E_impl_TokenCount) A0 w v0 p0) :
  Calls Try.prog 41 #[v0] w fun e w' => ∃ v, e = .returned v ∧ (v = .bool r ∧ Fr w w') := by
 unfold M_impl_IsTokenTable at hr
 obtain ⟨w0, hw0⟩ : ∃ w0, w0 = w := ⟨_, rfl⟩
 have hF : Fr w0 w := hw0 ▸ Fr.refl _
 have hA0 : ∀ b o, A0 b o → b < w0.heap.size := fun b o h => hw0 ▸ hA b o h
 have hA00 : AvOK A0 w0 := hA0
 rw [show Fr w = Fr w0 from hw0 ▸ rfl]
 clear hw0
 obtain ⟨A, hAe⟩ : ∃ A, A = A0 := ⟨_, rfl⟩
 have hAA : ∀ b o, A0 b o → A b o := fun b o h => hAe ▸ h
 replace hA : AvOK A w := hAe ▸ hA
 have hO : IniOK [] A w := IniOK.nil
 refine calls_of_HT2 [.tmp 2] Try.func41 Try.ntmps41 (by decide) rfl rfl (Nat.le_of_ble_eq_true rfl) ?_
 intro R hR
 have f_v0 : Rep (eSl E_impl_TokenCount) A w v0 p0 := hAe ▸ h0
 replace h0 : R 0 = v0 := hR 0 _ rfl
 clear hR hAe
 refine HT.seq ?_
 refine HT.text (l := ⟨_, true, .raw (.bool false)⟩ :: []) (tl := []) (by kernel_rfl) (by kernel_rfl) (by kernel_rfl) ?_ ?_
 ·exact
   Obls.p (fun R' w' hw hs hd => of_assign rfl) <|
   Obls.nil
 intro R w hw hs hF'
 replace h0 := (hs 0 rfl).trans h0
 replace f_v0 := f_v0.fr hw
 replace hO := hO.fr hw
 replace hA := hA.fr hw.size
 replace hF := hF.trans hw
 clear hs hF' hw
 refine seqR_nil ?_
 refine HT.seq ?_
 refine HT.seq ?_
 refine HT.text (l := ⟨_, true, .raw v0⟩ :: ⟨_, true, .raw (.int .i64 (p0.length : Int))⟩ :: ⟨_, true, .raw (.int .i64 (0 : Int))⟩ :: []) (tl := []) (by kernel_rfl) (by kernel_rfl) (by kernel_rfl) ?_ ?_
 ·exact
   Obls.p (fun R' w' hw hs hd => of_move ((hs 0 rfl).trans h0)) <|
   Obls.p (fun R' w' hw hs hd => by have a0 : R' 5 = v0 := hd.g 0 rfl; have ra0 := (f_v0.fr hw).eq a0; exact of_len_sl (aT := #[]) ra0 Try.underlying42) <|
   Obls.p (fun R' w' hw hs hd => of_move rfl) <|
   Obls.nil
 intro R w hw hs hF'
 replace h0 := (hs 0 rfl).trans h0
 have h5 : R 5 = v0 := hF' 0 _ _ rfl rfl rfl
 have h6 : R 6 = .int .i64 (p0.length : Int) := hF' 1 _ _ rfl rfl rfl
 have h7 : R 7 = .int .i64 (0 : Int) := hF' 2 _ _ rfl rfl rfl
 replace f_v0 := f_v0.fr hw
 replace hO := hO.fr hw
 replace hA := hA.fr hw.size
 replace hF := hF.trans hw
 clear hs hF' hw
 refine seqR_nil ?_
 obtain ⟨rl1, q2, hr⟩ := cl_some hr
 replace q2 := q2 rfl
 refine HT.cut0 (fun R w => ∃ A : Av, ∃ (s3 : Unit), rl1 = Ex.go s3 ∧ AvOK A w ∧ Fr w0 w ∧ (∀ b o, A0 b o → A b o) ∧ IniOK [] A w) ?_ ?_
 ·refine HT.block ?_
  refine HT.loop (fun k R w => ∃ A : Av, ∃ (y4 : Int), M_impl_IsTokenTable_L0 fu p0 k y4 = some rl1 ∧ AvOK A w ∧ Fr w0 w ∧ (∀ b o, A0 b o → A b o) ∧ IniOK [] A w ∧ R 0 = v0 ∧ R 5 = v0 ∧ R 6 = .int .i64 (p0.length : Int) ∧ R 7 = .int .i64 y4 ∧ Rep (eSl E_impl_TokenCount) A w v0 p0) fu ⟨_, _, q2, hA, hF, hAA, hO, h0, h5, h6, h7, f_v0⟩ ?_
  have hr0 := hr; clear hr q2
  rintro k R w ⟨A, y4, hr, hA, hF, hAA, hO, h0, h5, h6, h7, f_v0⟩
  rcases k with _ | k
  ·cases (show none = some _ from hr)
  rw [M_impl_IsTokenTable_L0] at hr
  refine HT.seq ?_
  refine HT.text (l := ⟨_, true, .raw (.bool (decide (y4 < (p0.length : Int))))⟩ :: []) (tl := []) (by kernel_rfl) (by kernel_rfl) (by kernel_rfl) ?_ ?_
  ·exact
    Obls.p (fun R' w' hw hs hd => of_lss ((hs 7 rfl).trans h7) ((hs 6 rfl).trans h6)) <|
    Obls.nil
  intro R w hw hs hF'
  replace h0 := (hs 0 rfl).trans h0
  replace h5 := (hs 5 rfl).trans h5
  replace h6 := (hs 6 rfl).trans h6
  replace h7 := (hs 7 rfl).trans h7
  have h8 : R 8 = .bool (decide (y4 < (p0.length : Int))) := hF' 0 _ _ rfl rfl rfl
  replace f_v0 := f_v0.fr hw
  replace hO := hO.fr hw
  replace hA := hA.fr hw.size
  replace hF := hF.trans hw
  clear hs hF' hw
  refine seqR_nil ?_
  refine HT.seq ?_
  refine HT.cond (decide (y4 < (p0.length : Int))) h8 (fun c5 => ?_) (fun c5 => ?_)
  ·have hr := cnd_t c5 hr
   refine HT.skip ?_
   refine HT.seq ?_
   refine HT.block ?_
   refine HT.seq ?_
   obtain ⟨e6, hr⟩ := ck_some hr
   refine HT.textR [] (⟨_, true, [], none, true, fun A => .raw (.int .i64 y4)⟩ :: ⟨_, true, [], none, true, fun A => .qtr E_impl_TokenCount A (gtD p0 y4)⟩ :: ⟨_, true, [], none, true, fun A => .rep E_impl_TokenCount A (gtD p0 y4)⟩ :: ⟨_, true, [], some (.box w0.heap.size 52 E_impl_TokenCount (([] : List UInt8), (0 : Int))), true, fun A => .any⟩ :: ⟨_, true, [], none, true, fun A => .raw (.int .i64 y4)⟩ :: ⟨_, true, [3], some (.box w0.heap.size 52 E_impl_TokenCount (gtD p0 y4)), false, fun A => .any⟩ :: []) (by kernel_rfl) (by kernel_rfl) (Wf.mk' (by kernel_rfl) (UAll.cons ust_raw (UAll.cons ust_qtr (UAll.cons ust_rep (UAll.cons ust_any (UAll.cons ust_raw (UAll.cons ust_any (UAll.nil))))))) (by kernel_rfl) (by kernel_rfl)) hO hA ?_ ?_
   ·exact
     OblsR.p (fun A' R' w' ho hd => of_move ((ho.old 7 rfl).trans h7)) <|
     OblsR.p (fun A' R' w' ho hd => by have ra0 := (f_v0.stp ho.stp).eq ((ho.old 5 rfl).trans h5); exact of_indexAddr ra0 ((ho.old 7 rfl).trans h7) Try.underlying42 Try.sizeOf52 e6) <|
     OblsR.p (fun A' R' w' ho hd => by have a0 : QRep E_impl_TokenCount A' w' (R' 10) (gtD p0 y4) := hd.g 0 rfl; exact (of_load a0.ptr Try.isAgg52 Try.sizeOf52)) <|
     OblsR.cons (OblR.made _ rfl rfl rfl rfl fun A' R' w' ho hd => by exact made_alloc Try.zeroValue52 (fun A w => rep_pr (rep1_str rfl (by decide)) rep1_int) (Nat.le_trans hF.size ho.ch.size)) <|
     OblsR.p (fun A' R' w' ho hd => by have a0 : R' 9 = .int .i64 y4 := hd.g 0 rfl; exact of_assign a0) <|
     OblsR.cons (OblR.took 3 _ _ rfl rfl rfl rfl rfl fun A' R' w' ho hd u hok hav hin hop hds => by have a1 : Rep E_impl_TokenCount A' w' (R' 11) (gtD p0 y4) := hd.g 1 rfl; obtain ⟨b, hb, hB', hbx⟩ := hok; have hop' := hop _ _ rfl rfl rfl rfl; exact took_store a1 (hop'.symm.trans hb) hb ⟨b, hb, hB', hbx⟩ hav (FldS.id _) Try.sizeOf52 rfl) <|
     OblsR.nil
   intro done ρ σ A R w hdn hI
   replace h0 : R 0 = v0 := (hI.reg rfl).trans h0
   replace h5 : R 5 = v0 := (hI.reg rfl).trans h5
   replace h6 : R 6 = .int .i64 (p0.length : Int) := (hI.reg rfl).trans h6
   replace h7 : R 7 = .int .i64 y4 := (hI.reg rfl).trans h7
   obtain ⟨b4_6, e_b4_6⟩ := hI.boxv hdn 5 rfl rfl
   have z8 := (hI.opnR hdn 5 5 rfl rfl rfl rfl rfl).symm.trans e_b4_6
   have h4 : R 4 = (.pointer (some ⟨b4_6, 0, none⟩)) := (hI.opvR hdn 3 3 rfl rfl rfl rfl rfl).symm.trans z8
   have h3 : R 3 = .int .i64 y4 := hI.fact hdn (i := 4) rfl rfl rfl
   replace f_v0 := f_v0.stp hI.stp
   replace hAA := hI.low' hAA hA0 (hO.ge (trivial))
   replace hF : Fr w0 w := hF.tr hI.ch (hO.ge (trivial))
   replace hO : IniOK [ob (.pointer (some ⟨b4_6, 0, none⟩)) (.box w0.heap.size 52 E_impl_TokenCount (gtD p0 y4))] A w := hI.left hdn [(5, ob (.pointer (some ⟨b4_6, 0, none⟩)) (.box w0.heap.size 52 E_impl_TokenCount (gtD p0 y4)))] ⟨rfl, rfl, e_b4_6, rfl, rfl, trivial⟩
   replace hA := hI.avok
   clear hI
   refine HT.seq ?_
   obtain ⟨e9, hr⟩ := ck_some hr
   obtain ⟨e10, hr⟩ := ck_some hr
   obtain ⟨x11, q12, hr⟩ := bd_some hr
   obtain ⟨x13, q14, hr⟩ := bd_some hr
   refine HT.draw (by kernel_rfl) (l := ⟨_, true, .raw (.pointer (some ⟨b4_6, 1, none⟩))⟩ :: ⟨_, true, .raw (.int .i64 ((gtD p0 y4).2))⟩ :: ⟨_, true, .raw (.bool (decide (((gtD p0 y4).2) < (1 : Int))))⟩ :: ⟨_, true, .raw (.bool (decide (((gtD p0 y4).2) < (1 : Int))))⟩ :: ⟨_, (true && ((decide (((gtD p0 y4).2) < (1 : Int))) == false)), .raw (.int .i64 y4)⟩ :: ⟨_, (true && ((decide (((gtD p0 y4).2) < (1 : Int))) == false)), .raw (.bool (decide ((0 : Int) < y4)))⟩ :: ⟨_, (true && ((decide (((gtD p0 y4).2) < (1 : Int))) == false)), .raw (.bool (decide ((0 : Int) < y4)))⟩ :: ⟨_, ((true && ((decide (((gtD p0 y4).2) < (1 : Int))) == false)) && ((decide ((0 : Int) < y4)) == true)), .raw v0⟩ :: ⟨_, ((true && ((decide (((gtD p0 y4).2) < (1 : Int))) == false)) && ((decide ((0 : Int) < y4)) == true)), .raw (.int .i64 y4)⟩ :: ⟨_, ((true && ((decide (((gtD p0 y4).2) < (1 : Int))) == false)) && ((decide ((0 : Int) < y4)) == true)), .raw (.int .i64 (y4 - (1 : Int)))⟩ :: ⟨_, ((true && ((decide (((gtD p0 y4).2) < (1 : Int))) == false)) && ((decide ((0 : Int) < y4)) == true)), .qtr E_impl_TokenCount A (gtD p0 (y4 - (1 : Int)))⟩ :: ⟨_, ((true && ((decide (((gtD p0 y4).2) < (1 : Int))) == false)) && ((decide ((0 : Int) < y4)) == true)), .qtr eStr A ((gtD p0 (y4 - (1 : Int))).1)⟩ :: ⟨_, ((true && ((decide (((gtD p0 y4).2) < (1 : Int))) == false)) && ((decide ((0 : Int) < y4)) == true)), .rep eStr A ((gtD p0 (y4 - (1 : Int))).1)⟩ :: ⟨_, ((true && ((decide (((gtD p0 y4).2) < (1 : Int))) == false)) && ((decide ((0 : Int) < y4)) == true)), .raw (.pointer (some ⟨b4_6, 0, none⟩))⟩ :: ⟨_, ((true && ((decide (((gtD p0 y4).2) < (1 : Int))) == false)) && ((decide ((0 : Int) < y4)) == true)), .rep eStr A ((gtD p0 y4).1)⟩ :: ⟨_, ((true && ((decide (((gtD p0 y4).2) < (1 : Int))) == false)) && ((decide ((0 : Int) < y4)) == true)), .raw (.bool (!(bLt ((gtD p0 (y4 - (1 : Int))).1) ((gtD p0 y4).1))))⟩ :: ⟨_, (true && ((decide (((gtD p0 y4).2) < (1 : Int))) == false)), .raw (.bool x11)⟩ :: ⟨_, true, .raw (.bool x13)⟩ :: []) (tl := []) (by kernel_rfl) (by kernel_rfl) (by kernel_rfl) (by kernel_rfl) ?_ ?_
   ·exact
     Obls.p (fun R' w' hw hs hd => of_fieldAddr_raw ((hs 4 rfl).trans h4) ff_52_1 Try.sizeOf3 (by decide) rfl) <|
     Obls.p (fun R' w' hw hs hd => by have a0 : R' 12 = (.pointer (some ⟨b4_6, 1, none⟩)) := hd.g 0 rfl; exact OpF.int (of_load_box ((hO.fr hw).ok 0 _ rfl).1 a0 fl_impl_TokenCount_1 rfl Try.isAgg3 Try.sizeOf3)) <|
     Obls.p (fun R' w' hw hs hd => by have a0 : R' 13 = .int .i64 ((gtD p0 y4).2) := hd.g 0 rfl; exact of_lss a0 rfl) <|
     Obls.p (fun R' w' hw hs hd => by have a0 : R' 14 = .bool (decide (((gtD p0 y4).2) < (1 : Int))) := hd.g 0 rfl; exact of_move a0) <|
     Obls.cons (Obl.grd 3 false _ _ _ rfl rfl rfl rfl rfl (by kernel_rfl) fun hg R' w' hw hs hd => by have a0 : R' 3 = .int .i64 y4 := (hs 3 rfl).trans h3; exact of_move a0) <|
     Obls.cons (Obl.grd 3 false _ _ _ rfl rfl rfl rfl rfl (by kernel_rfl) fun hg R' w' hw hs hd => by have a0 : R' 16 = .int .i64 y4 := hd 0 _ _ _ rfl rfl rfl rfl hg; exact of_gtr a0 rfl) <|
     Obls.cons (Obl.grd 3 false _ _ _ rfl rfl rfl rfl rfl (by kernel_rfl) fun hg R' w' hw hs hd => by have a0 : R' 17 = .bool (decide ((0 : Int) < y4)) := hd 0 _ _ _ rfl rfl rfl rfl hg; exact of_move a0) <|
     Obls.cons (Obl.grd 6 true _ _ _ rfl rfl rfl rfl rfl (by kernel_rfl) fun hg R' w' hw hs hd => by have a0 : R' 0 = v0 := (hs 0 rfl).trans h0; exact of_move a0) <|
     Obls.cons (Obl.grd 6 true _ _ _ rfl rfl rfl rfl rfl (by kernel_rfl) fun hg R' w' hw hs hd => by have a0 : R' 3 = .int .i64 y4 := (hs 3 rfl).trans h3; exact of_move a0) <|
     Obls.cons (Obl.grd 6 true _ _ _ rfl rfl rfl rfl rfl (by kernel_rfl) fun hg R' w' hw hs hd => by have a0 : R' 20 = .int .i64 y4 := hd 0 _ _ _ rfl rfl rfl rfl hg; exact of_sub a0 rfl (gd e9 hg)) <|
     Obls.cons (Obl.grd 6 true _ _ _ rfl rfl rfl rfl rfl (by kernel_rfl) fun hg R' w' hw hs hd => by have a0 : R' 19 = v0 := hd 0 _ _ _ rfl rfl rfl rfl hg; have a1 : R' 21 = .int .i64 (y4 - (1 : Int)) := hd 1 _ _ _ rfl rfl rfl rfl hg; have ra0 := (f_v0.fr hw).eq a0; exact of_indexAddr ra0 a1 Try.underlying42 Try.sizeOf52 (gd e10 hg)) <|
     Obls.cons (Obl.grd 6 true _ _ _ rfl rfl rfl rfl rfl (by kernel_rfl) fun hg R' w' hw hs hd => by have a0 : QRep E_impl_TokenCount A w' (R' 22) (gtD p0 (y4 - (1 : Int))) := hd 0 _ _ _ rfl rfl rfl rfl hg; exact of_fieldAddr_q a0 ff_52_0 Try.sizeOf9 (by decide) fl_impl_TokenCount_0 rfl) <|
     Obls.cons (Obl.grd 6 true _ _ _ rfl rfl rfl rfl rfl (by kernel_rfl) fun hg R' w' hw hs hd => by have a0 : QRep eStr A w' (R' 23) ((gtD p0 (y4 - (1 : Int))).1) := hd 0 _ _ _ rfl rfl rfl rfl hg; exact (of_load a0.ptr Try.isAgg9 Try.sizeOf9)) <|
     Obls.cons (Obl.grd 6 true _ _ _ rfl rfl rfl rfl rfl (by kernel_rfl) fun hg R' w' hw hs hd => by have a0 : R' 4 = (.pointer (some ⟨b4_6, 0, none⟩)) := (hs 4 rfl).trans h4; exact of_fieldAddr_raw a0 ff_52_0 Try.sizeOf9 (by decide) rfl) <|
     Obls.cons (Obl.grd 6 true _ _ _ rfl rfl rfl rfl rfl (by kernel_rfl) fun hg R' w' hw hs hd => by have a0 : R' 25 = (.pointer (some ⟨b4_6, 0, none⟩)) := hd 0 _ _ _ rfl rfl rfl rfl hg; exact (of_load_box ((hO.fr hw).ok 0 _ rfl).1 a0 fl_impl_TokenCount_0 rfl Try.isAgg9 Try.sizeOf9)) <|
     Obls.cons (Obl.grd 6 true _ _ _ rfl rfl rfl rfl rfl (by kernel_rfl) fun hg R' w' hw hs hd => by have a0 : Rep eStr A w' (R' 24) ((gtD p0 (y4 - (1 : Int))).1) := hd 0 _ _ _ rfl rfl rfl rfl hg; have a1 : Rep eStr A w' (R' 26) ((gtD p0 y4).1) := hd 1 _ _ _ rfl rfl rfl rfl hg; exact of_sgeq a0 a1) <|
     Obls.cons (Obl.grd 3 false _ _ _ rfl rfl rfl rfl rfl (by kernel_rfl) fun hg R' w' hw hs hd => by have a0 : R' 18 = .bool (decide ((0 : Int) < y4)) := hd 0 _ _ _ rfl rfl rfl rfl hg; exact of_pick (decide ((0 : Int) < y4)) a0 (fun hc => by have a1 : R' 27 = .bool (!(bLt ((gtD p0 (y4 - (1 : Int))).1) ((gtD p0 y4).1))) := hd 1 _ _ _ rfl rfl rfl rfl (g_and hg (beq_of hc)); show _ = Value.bool x11; rw [q12, hc]; exact a1) (fun hc => by show _ = Value.bool x11; rw [q12, hc]; exact rfl)) <|
     Obls.p (fun R' w' hw hs hd => by have a0 : R' 15 = .bool (decide (((gtD p0 y4).2) < (1 : Int))) := hd.g 0 rfl; exact of_pick (decide (((gtD p0 y4).2) < (1 : Int))) a0 (fun hc => by show _ = Value.bool x13; rw [q14, hc]; exact rfl) (fun hc => by have a2 : R' 28 = .bool x11 := hd 1 _ _ _ rfl rfl rfl rfl (g_and rfl (beq_of hc)); show _ = Value.bool x13; rw [q14, hc]; exact a2)) <|
     Obls.nil
   intro R w hw hs hF'
   replace h0 := (hs 0 rfl).trans h0
   replace h5 := (hs 5 rfl).trans h5
   replace h6 := (hs 6 rfl).trans h6
   replace h7 := (hs 7 rfl).trans h7
   have h29 : R 29 = .bool x13 := hF' 17 _ _ rfl rfl rfl
   replace f_v0 := f_v0.fr hw
   replace hO := hO.fr hw
   replace hO : IniOK [] A w := hO.sub [] trivial
   replace hA := hA.fr hw.size
   replace hF := hF.trans hw
   clear hs hF' hw
   refine seqR_nil ?_
   refine HT.cond x13 h29 (fun c15 => ?_) (fun c15 => ?_)
   ·have hr := cnd_t c15 hr
    refine HT.seq ?_
    refine HT.text (l := ⟨_, true, .raw (.bool false)⟩ :: []) (tl := []) (by kernel_rfl) (by kernel_rfl) (by kernel_rfl) ?_ ?_
    ·exact
      Obls.p (fun R' w' hw hs hd => of_assign rfl) <|
      Obls.nil
    intro R w hw hs hF'
    have h2 : R 2 = .bool false := hF' 0 _ _ rfl rfl rfl
    replace hO := hO.fr hw
    replace hA := hA.fr hw.size
    replace hF := hF.trans hw
    clear hs hF' hw
    refine seqR_nil ?_
    refine HT.ret ?_
    obtain rfl := Option.some.inj hr
    have hr := hr0
    replace hr : some _ = some _ := hr
    obtain rfl := Option.some.inj hr
    exact ⟨.inr rfl, [R 2], ⟨rfl, trivial⟩, h2, hF⟩
   ·have hr := cnd_f c15 hr
    refine HT.skip ?_
    obtain ⟨e16, hr⟩ := ck_some hr
    refine HT.text (l := ⟨_, true, .raw (.int .i64 (y4 + (1 : Int)))⟩ :: ⟨_, true, .raw (.int .i64 (y4 + (1 : Int)))⟩ :: []) (tl := []) (by kernel_rfl) (by kernel_rfl) (by kernel_rfl) ?_ ?_
    ·exact
      Obls.p (fun R' w' hw hs hd => of_add ((hs 7 rfl).trans h7) rfl e16) <|
      Obls.p (fun R' w' hw hs hd => by have a0 : R' 30 = .int .i64 (y4 + (1 : Int)) := hd.g 0 rfl; exact of_move a0) <|
      Obls.nil
    intro R w hw hs hF'
    replace h0 := (hs 0 rfl).trans h0
    replace h5 := (hs 5 rfl).trans h5
    replace h6 := (hs 6 rfl).trans h6
    have h7 : R 7 = .int .i64 (y4 + (1 : Int)) := hF' 1 _ _ rfl rfl rfl
    replace f_v0 := f_v0.fr hw
    replace hO := hO.fr hw
    replace hA := hA.fr hw.size
    replace hF := hF.trans hw
    clear hs hF' hw
    refine seqR_nil ?_
    exact Exists.intro k (And.intro (Nat.lt_succ_self k) ⟨_, _, hr, hA, hF, hAA, hO, h0, h5, h6, h7, f_v0⟩)
  ·have hr := cnd_f c5 hr
   refine HT.exit ?_
   obtain rfl := Option.some.inj hr
   exact Exists.intro _ ⟨_, rfl, hA, hF, hAA, hO⟩
 rintro R w ⟨A, s3, rfl, hA, hF, hAA, hO⟩
 have hr := exM_go hr
 refine HT.seq ?_
 refine HT.text (l := ⟨_, true, .raw (.bool true)⟩ :: []) (tl := []) (by kernel_rfl) (by kernel_rfl) (by kernel_rfl) ?_ ?_
 ·exact
   Obls.p (fun R' w' hw hs hd => of_assign rfl) <|
   Obls.nil
 intro R w hw hs hF'
 have h2 : R 2 = .bool true := hF' 0 _ _ rfl rfl rfl
 replace hO := hO.fr hw
 replace hA := hA.fr hw.size
 replace hF := hF.trans hw
 clear hs hF' hw
 refine seqR_nil ?_
 refine HT.ret ?_
 obtain rfl := Option.some.inj hr
 exact ⟨.inr rfl, [R 2], ⟨rfl, trivial⟩, h2, hF⟩
def M_laws_FnOrders_L0 (fu : Nat) (x4 : (List T_impl_TokenCount) × (List (List UInt8))) (x8 : List (List UInt8)) : Nat → Int → Option (Ex Bool Unit)
 | 0, _ => none
 | k + 1, y21 =>
  bif (decide (y21 < (x8.length : Int))) then (
   ck (i64B (y21 - (1 : Int))) <|
   ck (inR (y21 - (1 : Int)) x8.length) <|
   cl true (M_impl_TokenFrequency fu x4.1 (gtD x8 (y21 - (1 : Int)))) fun x25 =>
   ck (inR y21 x8.length) <|
   cl true (M_impl_TokenFrequency fu x4.1 (gtD x8 y21)) fun x28 =>
   ck (!((true && ((decide (x28 < x25)) == false)) && ((x25 == x28) == true)) || i64B (y21 - (1 : Int))) <|
   ck (!((true && ((decide (x28 < x25)) == false)) && ((x25 == x28) == true)) || inR (y21 - (1 : Int)) x8.length) <|
   ck (!((true && ((decide (x28 < x25)) == false)) && ((x25 == x28) == true)) || inR y21 x8.length) <|
   bd ((x25 == x28) && (!(bLt (gtD x8 (y21 - (1 : Int))) (gtD x8 y21) || (gtD x8 (y21 - (1 : Int))) == (gtD x8 y21)))) fun x33 =>
   bd ((decide (x28 < x25)) || x33) fun x35 =>
   bif x35 then (
    some (Ex.ret false)
   ) else (
    ck (i64B (y21 + (1 : Int))) <|
    M_laws_FnOrders_L0 fu x4 x8 k (y21 + (1 : Int))
   )
  ) else (
   some (Ex.go ())
  )
def M_laws_FnOrders_L1 (fu : Nat) (x39 : List (List (List UInt8))) (x42 : List T_impl_TokenCount) (x45 : List T_impl_TokenCount) : Nat → Int → Option (Ex Bool Unit)
 | 0, _ => none
 | k + 1, y56 =>
  bif (decide (y56 < (x42.length : Int))) then (
   ck (inR y56 x42.length) <|
   ck (inR y56 x45.length) <|
   ck (!(true && ((!((gtD x42 y56) == (gtD x45 y56))) == false)) || inR y56 x42.length) <|
   bd ((!((gtD x42 y56) == (gtD x45 y56))) || (decide ((x39.length : Int) < ((gtD x42 y56).2)))) fun x61 =>
   bif x61 then (
    some (Ex.ret false)
   ) else (
    ck (i64B (y56 + (1 : Int))) <|
    M_laws_FnOrders_L1 fu x39 x42 x45 k (y56 + (1 : Int))
   )
  ) else (
   some (Ex.go ())
  )
def M_laws_FnOrders (fu : Nat) (p0 : List Int) : Option Bool :=
 cl true (M_laws_big fu p0) fun x1 =>
 bif x1 then (
  some true
 ) else (
  cl true (M_spec_DrawOrderTokens fu p0) fun x4 =>
  cl true (M_impl_OrderTokens fu x4.1 x4.2) fun x8 =>
  cl true (M_spec_OrderTokens fu x4.1 x4.2) fun x11 =>
  cl true (M_spec_EqualTokens fu x8 x11) fun x13 =>
  bd ((!x13) || ((x8.length : Int) != (x4.2.length : Int))) fun x15 =>
  bif x15 then (
   some false
  ) else (
   cl true (M_laws_FnOrders_L0 fu x4 x8 fu (1 : Int)) fun rl18 =>
   exM rl18 (fun r => some r) fun s20 =>
   cl true (M_spec_DrawCountTokens fu p0) fun x39 =>
   cl true (M_impl_CountTokens fu x39) fun x42 =>
   cl true (M_spec_CountTokens fu x39) fun x45 =>
   cl (true && (((x42.length : Int) != (x45.length : Int)) == false)) (M_impl_IsTokenTable fu x42) fun x48 =>
   bd (((x42.length : Int) != (x45.length : Int)) || (!x48)) fun x50 =>
   bif x50 then (
    some false
   ) else (
    cl true (M_laws_FnOrders_L1 fu x39 x42 x45 fu (0 : Int)) fun rl53 =>
    exM rl53 (fun r => some r) fun s55 =>
    some true
   )
  )
 )
theorem M_laws_FnOrders_ok {fu : Nat} {A : Av} {p0 : List Int} {r : Bool} (hr : M_laws_FnOrders fu p0 = some r) {w : World} {v0 : Value} (hA : AvOK A w) (h0 : Rep (eSl (eInt .u8)) A w v0 p0) :
  Calls Try.prog 7 #[v0] w fun e w' => ∃ v, e = .returned v ∧ (v = .bool r ∧ Fr w w') := by
 unfold M_laws_FnOrders at hr
 obtain ⟨w0, hw0⟩ : ∃ w0, w0 = w := ⟨_, rfl⟩
 have hF : Fr w0 w := hw0 ▸ Fr.refl _
 rw [show Fr w = Fr w0 from hw0 ▸ rfl]
 clear hw0
 refine calls_of_HT2 [.tmp 2] Try.func7 Try.ntmps7 (by decide) rfl rfl (Nat.le_of_ble_eq_true rfl) ?_
 intro R hR
 have f_v0 := h0
 replace h0 : R 0 = v0 := hR 0 _ rfl
 clear hR
 refine HT.seq ?_
 refine HT.text (l := ⟨_, true, .raw (.bool false)⟩ :: []) (tl := []) (by kernel_rfl) (by kernel_rfl) (by kernel_rfl) ?_ ?_
 ·exact
   Obls.p (fun R' w' hw hs hd => of_assign rfl) <|
   Obls.nil
 intro R w hw hs hF'
 replace h0 := (hs 0 rfl).trans h0
 replace f_v0 := f_v0.fr hw
 replace hA := hA.fr hw.size
 replace hF := hF.trans hw
 clear hs hF' hw
 refine seqR_nil ?_
 refine HT.seq ?_
 refine HT.seq ?_
 obtain ⟨x1, q2, hr⟩ := cl_some hr
 refine HT.text (l := ⟨_, true, .raw v0⟩ :: ⟨_, true, .raw (.bool x1)⟩ :: []) (tl := []) (by kernel_rfl) (by kernel_rfl) (by kernel_rfl) ?_ ?_
 ·exact
   Obls.p (fun R' w' hw hs hd => of_move ((hs 0 rfl).trans h0)) <|
   Obls.p (fun R' w' hw hs hd => by have a0 : R' 13 = v0 := hd.g 0 rfl; have ra0 := (f_v0.fr hw).eq a0; exact of_call Try.call22 (M_laws_big_ok (q2 rfl) (hA.fr hw.size) ra0)) <|
   Obls.nil
 intro R w hw hs hF'
 replace h0 := (hs 0 rfl).trans h0
 have h14 : R 14 = .bool x1 := hF' 1 _ _ rfl rfl rfl
 replace f_v0 := f_v0.fr hw
 replace hA := hA.fr hw.size
 replace hF := hF.trans hw
 clear hs hF' hw
 refine seqR_nil ?_
 refine HT.cond x1 h14 (fun c3 => ?_) (fun c3 => ?_)
 ·have hr := cnd_t c3 hr
  refine HT.seq ?_
  refine HT.text (l := ⟨_, true, .raw (.bool true)⟩ :: []) (tl := []) (by kernel_rfl) (by kernel_rfl) (by kernel_rfl) ?_ ?_
  ·exact
    Obls.p (fun R' w' hw hs hd => of_assign rfl) <|
    Obls.nil
  intro R w hw hs hF'
  have h2 : R 2 = .bool true := hF' 0 _ _ rfl rfl rfl
  replace hA := hA.fr hw.size
  replace hF := hF.trans hw
  clear hs hF' hw
  refine seqR_nil ?_
  refine HT.ret ?_
  obtain rfl := Option.some.inj hr
  exact ⟨.inr rfl, [R 2], ⟨rfl, trivial⟩, h2, hF⟩
 ·have hr := cnd_f c3 hr
  refine HT.skip ?_
  refine HT.seq ?_
  obtain ⟨x4, q5, hr⟩ := cl_some hr
  refine HT.text (l := ⟨_, true, .raw v0⟩ :: ⟨_, true, .tup2 (.rep (eSl E_impl_TokenCount) A x4.1) (.rep (eSl eStr) A x4.2)⟩ :: ⟨_, true, .tup2 (.rep (eSl E_impl_TokenCount) A x4.1) (.rep (eSl eStr) A x4.2)⟩ :: ⟨_, true, .rep (eSl E_impl_TokenCount) A x4.1⟩ :: ⟨_, true, .rep (eSl eStr) A x4.2⟩ :: ⟨_, true, .rep (eSl E_impl_TokenCount) A x4.1⟩ :: ⟨_, true, .rep (eSl eStr) A x4.2⟩ :: []) (tl := []) (by kernel_rfl) (by kernel_rfl) (by kernel_rfl) ?_ ?_
  ·exact
    Obls.p (fun R' w' hw hs hd => of_move ((hs 0 rfl).trans h0)) <|
    Obls.p (fun R' w' hw hs hd => by have a0 : R' 16 = v0 := hd.g 0 rfl; have ra0 := (f_v0.fr hw).eq a0; exact of_call Try.call33 (M_spec_DrawOrderTokens_ok (q5 rfl) (hA.fr hw.size) ra0)) <|
    Obls.p (fun R' w' hw hs hd => by have a0 : Fact.ok (.tup2 (.rep (eSl E_impl_TokenCount) A x4.1) (.rep (eSl eStr) A x4.2)) (R' 17) w' := hd.g 0 rfl; exact of_move a0) <|
    Obls.p (fun R' w' hw hs hd => by have a0 : Fact.ok (.tup2 (.rep (eSl E_impl_TokenCount) A x4.1) (.rep (eSl eStr) A x4.2)) (R' 15) w' := hd.g 0 rfl; exact of_extract2_0 a0) <|
    Obls.p (fun R' w' hw hs hd => by have a0 : Fact.ok (.tup2 (.rep (eSl E_impl_TokenCount) A x4.1) (.rep (eSl eStr) A x4.2)) (R' 15) w' := hd.g 0 rfl; exact of_extract2_1 a0) <|
    Obls.p (fun R' w' hw hs hd => by have a0 : Rep (eSl E_impl_TokenCount) A w' (R' 18) x4.1 := hd.g 0 rfl; exact of_assign a0) <|
    Obls.p (fun R' w' hw hs hd => by have a0 : Rep (eSl eStr) A w' (R' 19) x4.2 := hd.g 0 rfl; exact of_assign a0) <|
    Obls.nil
  intro R w hw hs hF'
  replace h0 := (hs 0 rfl).trans h0
  obtain ⟨u6, h3, f_u6⟩ : ∃ u, R 3 = u ∧ Rep (eSl E_impl_TokenCount) A w u x4.1 := ⟨_, rfl, hF' 5 _ _ rfl rfl rfl⟩
  obtain ⟨u7, h4, f_u7⟩ : ∃ u, R 4 = u ∧ Rep (eSl eStr) A w u x4.2 := ⟨_, rfl, hF' 6 _ _ rfl rfl rfl⟩
  replace f_v0 := f_v0.fr hw
  replace hA := hA.fr hw.size
  replace hF := hF.trans hw
  clear hs hF' hw
  refine seqR_nil ?_
  refine HT.seq ?_
  obtain ⟨x8, q9, hr⟩ := cl_some hr
  refine HT.text (l := ⟨_, true, .raw u6⟩ :: ⟨_, true, .raw u7⟩ :: ⟨_, true, .rep (eSl eStr) A x8⟩ :: ⟨_, true, .rep (eSl eStr) A x8⟩ :: []) (tl := []) (by kernel_rfl) (by kernel_rfl) (by kernel_rfl) ?_ ?_
  ·exact
    Obls.p (fun R' w' hw hs hd => of_move ((hs 3 rfl).trans h3)) <|
    Obls.p (fun R' w' hw hs hd => of_move ((hs 4 rfl).trans h4)) <|
    Obls.p (fun R' w' hw hs hd => by have a0 : R' 20 = u6 := hd.g 0 rfl; have ra0 := (f_u6.fr hw).eq a0; have a1 : R' 21 = u7 := hd.g 1 rfl; have ra1 := (f_u7.fr hw).eq a1; exact of_call Try.call34 (M_impl_OrderTokens_okR (q9 rfl) (hA.fr hw.size) ra0 ra1)) <|
    Obls.p (fun R' w' hw hs hd => by have a0 : Rep (eSl eStr) A w' (R' 22) x8 := hd.g 0 rfl; exact of_assign a0) <|
    Obls.nil
  intro R w hw hs hF'
  replace h0 := (hs 0 rfl).trans h0
  replace h3 := (hs 3 rfl).trans h3
  replace h4 := (hs 4 rfl).trans h4
  obtain ⟨u10, h5, f_u10⟩ : ∃ u, R 5 = u ∧ Rep (eSl eStr) A w u x8 := ⟨_, rfl, hF' 3 _ _ rfl rfl rfl⟩
  replace f_u6 := f_u6.fr hw
  replace f_u7 := f_u7.fr hw
  replace f_v0 := f_v0.fr hw
  replace hA := hA.fr hw.size
  replace hF := hF.trans hw
  clear hs hF' hw
  refine seqR_nil ?_
  refine HT.seq ?_
  refine HT.seq ?_
  obtain ⟨x11, q12, hr⟩ := cl_some hr
  obtain ⟨x13, q14, hr⟩ := cl_some hr
  obtain ⟨x15, q16, hr⟩ := bd_some hr
  refine HT.text (l := ⟨_, true, .raw u10⟩ :: ⟨_, true, .raw u6⟩ :: ⟨_, true, .raw u7⟩ :: ⟨_, true, .rep (eSl eStr) A x11⟩ :: ⟨_, true, .raw (.bool x13)⟩ :: ⟨_, true, .raw (.bool (!x13))⟩ :: ⟨_, true, .raw (.bool (!x13))⟩ :: ⟨_, (true && ((!x13) == false)), .raw u10⟩ :: ⟨_, (true && ((!x13) == false)), .raw (.int .i64 (x8.length : Int))⟩ :: ⟨_, (true && ((!x13) == false)), .raw u7⟩ :: ⟨_, (true && ((!x13) == false)), .raw (.int .i64 (x4.2.length : Int))⟩ :: ⟨_, (true && ((!x13) == false)), .raw (.bool ((x8.length : Int) != (x4.2.length : Int)))⟩ :: ⟨_, true, .raw (.bool x15)⟩ :: []) (tl := []) (by kernel_rfl) (by kernel_rfl) (by kernel_rfl) ?_ ?_
  ·exact
    Obls.p (fun R' w' hw hs hd => of_move ((hs 5 rfl).trans h5)) <|
    Obls.p (fun R' w' hw hs hd => of_move ((hs 3 rfl).trans h3)) <|
    Obls.p (fun R' w' hw hs hd => of_move ((hs 4 rfl).trans h4)) <|
    Obls.p (fun R' w' hw hs hd => by have a0 : R' 24 = u6 := hd.g 0 rfl; have ra0 := (f_u6.fr hw).eq a0; have a1 : R' 25 = u7 := hd.g 1 rfl; have ra1 := (f_u7.fr hw).eq a1; exact of_call Try.call36 (M_spec_OrderTokens_okR (q12 rfl) (hA.fr hw.size) ra0 ra1)) <|
    Obls.p (fun R' w' hw hs hd => by have a0 : R' 23 = u10 := hd.g 0 rfl; have ra0 := (f_u10.fr hw).eq a0; have a1 : Rep (eSl eStr) A w' (R' 26) x11 := hd.g 1 rfl; exact of_call Try.call35 (M_spec_EqualTokens_ok (q14 rfl) (hA.fr hw.size) ra0 a1)) <|
    Obls.p (fun R' w' hw hs hd => by have a0 : R' 27 = .bool x13 := hd.g 0 rfl; exact of_not a0) <|
    Obls.p (fun R' w' hw hs hd => by have a0 : R' 28 = .bool (!x13) := hd.g 0 rfl; exact of_move a0) <|
    Obls.cons (Obl.grd 6 false _ _ _ rfl rfl rfl rfl rfl (by kernel_rfl) fun hg R' w' hw hs hd => by have a0 : R' 5 = u10 := (hs 5 rfl).trans h5; exact of_move a0) <|
    Obls.cons (Obl.grd 6 false _ _ _ rfl rfl rfl rfl rfl (by kernel_rfl) fun hg R' w' hw hs hd => by have a0 : R' 30 = u10 := hd 0 _ _ _ rfl rfl rfl rfl hg; have ra0 := (f_u10.fr hw).eq a0; exact of_len_sl (aT := #[]) ra0 Try.underlying22) <|
    Obls.cons (Obl.grd 6 false _ _ _ rfl rfl rfl rfl rfl (by kernel_rfl) fun hg R' w' hw hs hd => by have a0 : R' 4 = u7 := (hs 4 rfl).trans h4; exact of_move a0) <|
    Obls.cons (Obl.grd 6 false _ _ _ rfl rfl rfl rfl rfl (by kernel_rfl) fun hg R' w' hw hs hd => by have a0 : R' 32 = u7 := hd 0 _ _ _ rfl rfl rfl rfl hg; have ra0 := (f_u7.fr hw).eq a0; exact of_len_sl (aT := #[]) ra0 Try.underlying22) <|
    Obls.cons (Obl.grd 6 false _ _ _ rfl rfl rfl rfl rfl (by kernel_rfl) fun hg R' w' hw hs hd => by have a0 : R' 31 = .int .i64 (x8.length : Int) := hd 0 _ _ _ rfl rfl rfl rfl hg; have a1 : R' 33 = .int .i64 (x4.2.length : Int) := hd 1 _ _ _ rfl rfl rfl rfl hg; exact of_neq a0 a1) <|
    Obls.p (fun R' w' hw hs hd => by have a0 : R' 29 = .bool (!x13) := hd.g 0 rfl; exact of_pick (!x13) a0 (fun hc => by show _ = Value.bool x15; rw [q16, hc]; exact rfl) (fun hc => by have a2 : R' 34 = .bool ((x8.length : Int) != (x4.2.length : Int)) := hd 1 _ _ _ rfl rfl rfl rfl (g_and rfl (beq_of hc)); show _ = Value.bool x15; rw [q16, hc]; exact a2)) <|
    Obls.nil
  intro R w hw hs hF'
  replace h0 := (hs 0 rfl).trans h0
  replace h3 := (hs 3 rfl).trans h3
  replace h5 := (hs 5 rfl).trans h5
  have h35 : R 35 = .bool x15 := hF' 12 _ _ rfl rfl rfl
  replace f_u10 := f_u10.fr hw
  replace f_u6 := f_u6.fr hw
  replace f_v0 := f_v0.fr hw
  replace hA := hA.fr hw.size
  replace hF := hF.trans hw
  clear hs hF' hw
  refine seqR_nil ?_
  refine HT.cond x15 h35 (fun c17 => ?_) (fun c17 => ?_)
  ·have hr := cnd_t c17 hr
   refine HT.seq ?_
   refine HT.text (l := ⟨_, true, .raw (.bool false)⟩ :: []) (tl := []) (by kernel_rfl) (by kernel_rfl) (by kernel_rfl) ?_ ?_
   ·exact
     Obls.p (fun R' w' hw hs hd => of_assign rfl) <|
     Obls.nil
   intro R w hw hs hF'
   have h2 : R 2 = .bool false := hF' 0 _ _ rfl rfl rfl
   replace hA := hA.fr hw.size
   replace hF := hF.trans hw
   clear hs hF' hw
   refine seqR_nil ?_
   refine HT.ret ?_
   obtain rfl := Option.some.inj hr
   exact ⟨.inr rfl, [R 2], ⟨rfl, trivial⟩, h2, hF⟩
  ·have hr := cnd_f c17 hr
   refine HT.skip ?_
   refine HT.seq ?_
   refine HT.seq ?_
   refine HT.text (l := ⟨_, true, .raw (.int .i64 (1 : Int))⟩ :: []) (tl := []) (by kernel_rfl) (by kernel_rfl) (by kernel_rfl) ?_ ?_
   ·exact
     Obls.p (fun R' w' hw hs hd => of_assign rfl) <|
     Obls.nil
   intro R w hw hs hF'
   replace h0 := (hs 0 rfl).trans h0
   replace h3 := (hs 3 rfl).trans h3
   replace h5 := (hs 5 rfl).trans h5
   have h6 : R 6 = .int .i64 (1 : Int) := hF' 0 _ _ rfl rfl rfl
   replace f_u10 := f_u10.fr hw
   replace f_u6 := f_u6.fr hw
   replace f_v0 := f_v0.fr hw
   replace hA := hA.fr hw.size
   replace hF := hF.trans hw
   clear hs hF' hw
   refine seqR_nil ?_
   obtain ⟨rl18, q19, hr⟩ := cl_some hr
   replace q19 := q19 rfl
   refine HT.cut0 (fun R w => ∃ (s20 : Unit), rl18 = Ex.go s20 ∧ AvOK A w ∧ Fr w0 w ∧ R 0 = v0 ∧ Rep (eSl (eInt .u8)) A w v0 p0) ?_ ?_
   ·refine HT.block ?_
    refine HT.loop (fun k R w => ∃ (y21 : Int), M_laws_FnOrders_L0 fu x4 x8 k y21 = some rl18 ∧ AvOK A w ∧ Fr w0 w ∧ R 0 = v0 ∧ R 3 = u6 ∧ R 5 = u10 ∧ R 6 = .int .i64 y21 ∧ Rep (eSl eStr) A w u10 x8 ∧ Rep (eSl E_impl_TokenCount) A w u6 x4.1 ∧ Rep (eSl (eInt .u8)) A w v0 p0) fu ⟨_, q19, hA, hF, h0, h3, h5, h6, f_u10, f_u6, f_v0⟩ ?_
    have hr0 := hr; clear hr q19
    rintro k R w ⟨y21, hr, hA, hF, h0, h3, h5, h6, f_u10, f_u6, f_v0⟩
    rcases k with _ | k
    ·cases (show none = some _ from hr)
    rw [M_laws_FnOrders_L0] at hr
    refine HT.seq ?_
    refine HT.seq ?_
    refine HT.text (l := ⟨_, true, .raw (.int .i64 y21)⟩ :: ⟨_, true, .raw u10⟩ :: ⟨_, true, .raw (.int .i64 (x8.length : Int))⟩ :: ⟨_, true, .raw (.bool (decide (y21 < (x8.length : Int))))⟩ :: []) (tl := []) (by kernel_rfl) (by kernel_rfl) (by kernel_rfl) ?_ ?_
    ·exact
      Obls.p (fun R' w' hw hs hd => of_move ((hs 6 rfl).trans h6)) <|
      Obls.p (fun R' w' hw hs hd => of_move ((hs 5 rfl).trans h5)) <|
      Obls.p (fun R' w' hw hs hd => by have a0 : R' 37 = u10 := hd.g 0 rfl; have ra0 := (f_u10.fr hw).eq a0; exact of_len_sl (aT := #[]) ra0 Try.underlying22) <|
      Obls.p (fun R' w' hw hs hd => by have a0 : R' 36 = .int .i64 y21 := hd.g 0 rfl; have a1 : R' 38 = .int .i64 (x8.length : Int) := hd.g 1 rfl; exact of_lss a0 a1) <|
      Obls.nil
    intro R w hw hs hF'
    replace h0 := (hs 0 rfl).trans h0
    replace h3 := (hs 3 rfl).trans h3
    replace h5 := (hs 5 rfl).trans h5
    replace h6 := (hs 6 rfl).trans h6
    have h39 : R 39 = .bool (decide (y21 < (x8.length : Int))) := hF' 3 _ _ rfl rfl rfl
    replace f_u10 := f_u10.fr hw
    replace f_u6 := f_u6.fr hw
    replace f_v0 := f_v0.fr hw
    replace hA := hA.fr hw.size
    replace hF := hF.trans hw
    clear hs hF' hw
    refine seqR_nil ?_
    refine HT.cond (decide (y21 < (x8.length : Int))) h39 (fun c22 => ?_) (fun c22 => ?_)
    ·have hr := cnd_t c22 hr
     refine HT.skip ?_
     refine HT.seq ?_
     refine HT.block ?_
     refine HT.seq ?_
     obtain ⟨e23, hr⟩ := ck_some hr
     obtain ⟨e24, hr⟩ := ck_some hr
     obtain ⟨x25, q26, hr⟩ := cl_some hr
     refine HT.text (l := ⟨_, true, .raw u6⟩ :: ⟨_, true, .raw u10⟩ :: ⟨_, true, .raw (.int .i64 y21)⟩ :: ⟨_, true, .raw (.int .i64 (y21 - (1 : Int)))⟩ :: ⟨_, true, .qtr eStr A (gtD x8 (y21 - (1 : Int)))⟩ :: ⟨_, true, .rep eStr A (gtD x8 (y21 - (1 : Int)))⟩ :: ⟨_, true, .raw (.int .i64 x25)⟩ :: ⟨_, true, .raw (.int .i64 x25)⟩ :: []) (tl := []) (by kernel_rfl) (by kernel_rfl) (by kernel_rfl) ?_ ?_
     ·exact
       Obls.p (fun R' w' hw hs hd => of_move ((hs 3 rfl).trans h3)) <|
       Obls.p (fun R' w' hw hs hd => of_move ((hs 5 rfl).trans h5)) <|
       Obls.p (fun R' w' hw hs hd => of_move ((hs 6 rfl).trans h6)) <|
       Obls.p (fun R' w' hw hs hd => by have a0 : R' 44 = .int .i64 y21 := hd.g 0 rfl; exact of_sub a0 rfl e23) <|
       Obls.p (fun R' w' hw hs hd => by have a0 : R' 43 = u10 := hd.g 0 rfl; have a1 : R' 45 = .int .i64 (y21 - (1 : Int)) := hd.g 1 rfl; have ra0 := (f_u10.fr hw).eq a0; exact of_indexAddr ra0 a1 Try.underlying22 Try.sizeOf9 e24) <|
       Obls.p (fun R' w' hw hs hd => by have a0 : QRep eStr A w' (R' 46) (gtD x8 (y21 - (1 : Int))) := hd.g 0 rfl; exact (of_load a0.ptr Try.isAgg9 Try.sizeOf9)) <|
       Obls.p (fun R' w' hw hs hd => by have a0 : R' 42 = u6 := hd.g 0 rfl; have ra0 := (f_u6.fr hw).eq a0; have a1 : Rep eStr A w' (R' 47) (gtD x8 (y21 - (1 : Int))) := hd.g 1 rfl; exact of_call Try.call37 (M_impl_TokenFrequency_ok (q26 rfl) (hA.fr hw.size) ra0 a1)) <|
       Obls.p (fun R' w' hw hs hd => by have a0 : R' 48 = .int .i64 x25 := hd.g 0 rfl; exact of_assign a0) <|
       Obls.nil
     intro R w hw hs hF'
     replace h0 := (hs 0 rfl).trans h0
     replace h3 := (hs 3 rfl).trans h3
     replace h5 := (hs 5 rfl).trans h5
     replace h6 := (hs 6 rfl).trans h6
     have h7 : R 7 = .int .i64 x25 := hF' 7 _ _ rfl rfl rfl
     replace f_u10 := f_u10.fr hw
     replace f_u6 := f_u6.fr hw
     replace f_v0 := f_v0.fr hw
     replace hA := hA.fr hw.size
     replace hF := hF.trans hw
     clear hs hF' hw
     refine seqR_nil ?_
     refine HT.seq ?_
     obtain ⟨e27, hr⟩ := ck_some hr
     obtain ⟨x28, q29, hr⟩ := cl_some hr
     refine HT.text (l := ⟨_, true, .raw u6⟩ :: ⟨_, true, .raw u10⟩ :: ⟨_, true, .raw (.int .i64 y21)⟩ :: ⟨_, true, .qtr eStr A (gtD x8 y21)⟩ :: ⟨_, true, .rep eStr A (gtD x8 y21)⟩ :: ⟨_, true, .raw (.int .i64 x28)⟩ :: ⟨_, true, .raw (.int .i64 x28)⟩ :: []) (tl := []) (by kernel_rfl) (by kernel_rfl) (by kernel_rfl) ?_ ?_
     ·exact
       Obls.p (fun R' w' hw hs hd => of_move ((hs 3 rfl).trans h3)) <|
       Obls.p (fun R' w' hw hs hd => of_move ((hs 5 rfl).trans h5)) <|
       Obls.p (fun R' w' hw hs hd => of_move ((hs 6 rfl).trans h6)) <|
       Obls.p (fun R' w' hw hs hd => by have a0 : R' 50 = u10 := hd.g 0 rfl; have a1 : R' 51 = .int .i64 y21 := hd.g 1 rfl; have ra0 := (f_u10.fr hw).eq a0; exact of_indexAddr ra0 a1 Try.underlying22 Try.sizeOf9 e27) <|
       Obls.p (fun R' w' hw hs hd => by have a0 : QRep eStr A w' (R' 52) (gtD x8 y21) := hd.g 0 rfl; exact (of_load a0.ptr Try.isAgg9 Try.sizeOf9)) <|
       Obls.p (fun R' w' hw hs hd => by have a0 : R' 49 = u6 := hd.g 0 rfl; have ra0 := (f_u6.fr hw).eq a0; have a1 : Rep eStr A w' (R' 53) (gtD x8 y21) := hd.g 1 rfl; exact of_call Try.call37 (M_impl_TokenFrequency_ok (q29 rfl) (hA.fr hw.size) ra0 a1)) <|
       Obls.p (fun R' w' hw hs hd => by have a0 : R' 54 = .int .i64 x28 := hd.g 0 rfl; exact of_assign a0) <|
       Obls.nil
     intro R w hw hs hF'
     replace h0 := (hs 0 rfl).trans h0
     replace h3 := (hs 3 rfl).trans h3
     replace h5 := (hs 5 rfl).trans h5
     replace h6 := (hs 6 rfl).trans h6
     replace h7 := (hs 7 rfl).trans h7
     have h8 : R 8 = .int .i64 x28 := hF' 6 _ _ rfl rfl rfl
     replace f_u10 := f_u10.fr hw
     replace f_u6 := f_u6.fr hw
     replace f_v0 := f_v0.fr hw
     replace hA := hA.fr hw.size
     replace hF := hF.trans hw
     clear hs hF' hw
     refine seqR_nil ?_
     refine HT.seq ?_
     obtain ⟨e30, hr⟩ := ck_some hr
     obtain ⟨e31, hr⟩ := ck_some hr
     obtain ⟨e32, hr⟩ := ck_some hr
     obtain ⟨x33, q34, hr⟩ := bd_some hr
     obtain ⟨x35, q36, hr⟩ := bd_some hr
     refine HT.draw (by kernel_rfl) (l := ⟨_, true, .raw (.int .i64 x25)⟩ :: ⟨_, true, .raw (.int .i64 x28)⟩ :: ⟨_, true, .raw (.bool (decide (x28 < x25)))⟩ :: ⟨_, true, .raw (.bool (decide (x28 < x25)))⟩ :: ⟨_, (true && ((decide (x28 < x25)) == false)), .raw (.int .i64 x25)⟩ :: ⟨_, (true && ((decide (x28 < x25)) == false)), .raw (.int .i64 x28)⟩ :: ⟨_, (true && ((decide (x28 < x25)) == false)), .raw (.bool (x25 == x28))⟩ :: ⟨_, (true && ((decide (x28 < x25)) == false)), .raw (.bool (x25 == x28))⟩ :: ⟨_, ((true && ((decide (x28 < x25)) == false)) && ((x25 == x28) == true)), .raw u10⟩ :: ⟨_, ((true && ((decide (x28 < x25)) == false)) && ((x25 == x28) == true)), .raw (.int .i64 y21)⟩ :: ⟨_, ((true && ((decide (x28 < x25)) == false)) && ((x25 == x28) == true)), .raw (.int .i64 (y21 - (1 : Int)))⟩ :: ⟨_, ((true && ((decide (x28 < x25)) == false)) && ((x25 == x28) == true)), .qtr eStr A (gtD x8 (y21 - (1 : Int)))⟩ :: ⟨_, ((true && ((decide (x28 < x25)) == false)) && ((x25 == x28) == true)), .rep eStr A (gtD x8 (y21 - (1 : Int)))⟩ :: ⟨_, ((true && ((decide (x28 < x25)) == false)) && ((x25 == x28) == true)), .raw u10⟩ :: ⟨_, ((true && ((decide (x28 < x25)) == false)) && ((x25 == x28) == true)), .raw (.int .i64 y21)⟩ :: ⟨_, ((true && ((decide (x28 < x25)) == false)) && ((x25 == x28) == true)), .qtr eStr A (gtD x8 y21)⟩ :: ⟨_, ((true && ((decide (x28 < x25)) == false)) && ((x25 == x28) == true)), .rep eStr A (gtD x8 y21)⟩ :: ⟨_, ((true && ((decide (x28 < x25)) == false)) && ((x25 == x28) == true)), .raw (.bool (!(bLt (gtD x8 (y21 - (1 : Int))) (gtD x8 y21) || (gtD x8 (y21 - (1 : Int))) == (gtD x8 y21))))⟩ :: ⟨_, (true && ((decide (x28 < x25)) == false)), .raw (.bool x33)⟩ :: ⟨_, true, .raw (.bool x35)⟩ :: []) (tl := []) (by kernel_rfl) (by kernel_rfl) (by kernel_rfl) (by kernel_rfl) ?_ ?_
     ·exact
       Obls.p (fun R' w' hw hs hd => of_move ((hs 7 rfl).trans h7)) <|
       Obls.p (fun R' w' hw hs hd => of_move ((hs 8 rfl).trans h8)) <|
       Obls.p (fun R' w' hw hs hd => by have a0 : R' 55 = .int .i64 x25 := hd.g 0 rfl; have a1 : R' 56 = .int .i64 x28 := hd.g 1 rfl; exact of_gtr a0 a1) <|
       Obls.p (fun R' w' hw hs hd => by have a0 : R' 57 = .bool (decide (x28 < x25)) := hd.g 0 rfl; exact of_move a0) <|
       Obls.cons (Obl.grd 3 false _ _ _ rfl rfl rfl rfl rfl (by kernel_rfl) fun hg R' w' hw hs hd => by have a0 : R' 7 = .int .i64 x25 := (hs 7 rfl).trans h7; exact of_move a0) <|
       Obls.cons (Obl.grd 3 false _ _ _ rfl rfl rfl rfl rfl (by kernel_rfl) fun hg R' w' hw hs hd => by have a0 : R' 8 = .int .i64 x28 := (hs 8 rfl).trans h8; exact of_move a0) <|
       Obls.cons (Obl.grd 3 false _ _ _ rfl rfl rfl rfl rfl (by kernel_rfl) fun hg R' w' hw hs hd => by have a0 : R' 59 = .int .i64 x25 := hd 0 _ _ _ rfl rfl rfl rfl hg; have a1 : R' 60 = .int .i64 x28 := hd 1 _ _ _ rfl rfl rfl rfl hg; exact of_eql a0 a1) <|
       Obls.cons (Obl.grd 3 false _ _ _ rfl rfl rfl rfl rfl (by kernel_rfl) fun hg R' w' hw hs hd => by have a0 : R' 61 = .bool (x25 == x28) := hd 0 _ _ _ rfl rfl rfl rfl hg; exact of_move a0) <|
       Obls.cons (Obl.grd 7 true _ _ _ rfl rfl rfl rfl rfl (by kernel_rfl) fun hg R' w' hw hs hd => by have a0 : R' 5 = u10 := (hs 5 rfl).trans h5; exact of_move a0) <|
       Obls.cons (Obl.grd 7 true _ _ _ rfl rfl rfl rfl rfl (by kernel_rfl) fun hg R' w' hw hs hd => by have a0 : R' 6 = .int .i64 y21 := (hs 6 rfl).trans h6; exact of_move a0) <|
       Obls.cons (Obl.grd 7 true _ _ _ rfl rfl rfl rfl rfl (by kernel_rfl) fun hg R' w' hw hs hd => by have a0 : R' 64 = .int .i64 y21 := hd 0 _ _ _ rfl rfl rfl rfl hg; exact of_sub a0 rfl (gd e30 hg)) <|
       Obls.cons (Obl.grd 7 true _ _ _ rfl rfl rfl rfl rfl (by kernel_rfl) fun hg R' w' hw hs hd => by have a0 : R' 63 = u10 := hd 0 _ _ _ rfl rfl rfl rfl hg; have a1 : R' 65 = .int .i64 (y21 - (1 : Int)) := hd 1 _ _ _ rfl rfl rfl rfl hg; have ra0 := (f_u10.fr hw).eq a0; exact of_indexAddr ra0 a1 Try.underlying22 Try.sizeOf9 (gd e31 hg)) <|
       Obls.cons (Obl.grd 7 true _ _ _ rfl rfl rfl rfl rfl (by kernel_rfl) fun hg R' w' hw hs hd => by have a0 : QRep eStr A w' (R' 66) (gtD x8 (y21 - (1 : Int))) := hd 0 _ _ _ rfl rfl rfl rfl hg; exact (of_load a0.ptr Try.isAgg9 Try.sizeOf9)) <|
       Obls.cons (Obl.grd 7 true _ _ _ rfl rfl rfl rfl rfl (by kernel_rfl) fun hg R' w' hw hs hd => by have a0 : R' 5 = u10 := (hs 5 rfl).trans h5; exact of_move a0) <|
       Obls.cons (Obl.grd 7 true _ _ _ rfl rfl rfl rfl rfl (by kernel_rfl) fun hg R' w' hw hs hd => by have a0 : R' 6 = .int .i64 y21 := (hs 6 rfl).trans h6; exact of_move a0) <|
       Obls.cons (Obl.grd 7 true _ _ _ rfl rfl rfl rfl rfl (by kernel_rfl) fun hg R' w' hw hs hd => by have a0 : R' 68 = u10 := hd 0 _ _ _ rfl rfl rfl rfl hg; have a1 : R' 69 = .int .i64 y21 := hd 1 _ _ _ rfl rfl rfl rfl hg; have ra0 := (f_u10.fr hw).eq a0; exact of_indexAddr ra0 a1 Try.underlying22 Try.sizeOf9 (gd e32 hg)) <|
       Obls.cons (Obl.grd 7 true _ _ _ rfl rfl rfl rfl rfl (by kernel_rfl) fun hg R' w' hw hs hd => by have a0 : QRep eStr A w' (R' 70) (gtD x8 y21) := hd 0 _ _ _ rfl rfl rfl rfl hg; exact (of_load a0.ptr Try.isAgg9 Try.sizeOf9)) <|
       Obls.cons (Obl.grd 7 true _ _ _ rfl rfl rfl rfl rfl (by kernel_rfl) fun hg R' w' hw hs hd => by have a0 : Rep eStr A w' (R' 67) (gtD x8 (y21 - (1 : Int))) := hd 0 _ _ _ rfl rfl rfl rfl hg; have a1 : Rep eStr A w' (R' 71) (gtD x8 y21) := hd 1 _ _ _ rfl rfl rfl rfl hg; exact of_sgtr a0 a1) <|
       Obls.cons (Obl.grd 3 false _ _ _ rfl rfl rfl rfl rfl (by kernel_rfl) fun hg R' w' hw hs hd => by have a0 : R' 62 = .bool (x25 == x28) := hd 0 _ _ _ rfl rfl rfl rfl hg; exact of_pick (x25 == x28) a0 (fun hc => by have a1 : R' 72 = .bool (!(bLt (gtD x8 (y21 - (1 : Int))) (gtD x8 y21) || (gtD x8 (y21 - (1 : Int))) == (gtD x8 y21))) := hd 1 _ _ _ rfl rfl rfl rfl (g_and hg (beq_of hc)); show _ = Value.bool x33; rw [q34, hc]; exact a1) (fun hc => by show _ = Value.bool x33; rw [q34, hc]; exact rfl)) <|
       Obls.p (fun R' w' hw hs hd => by have a0 : R' 58 = .bool (decide (x28 < x25)) := hd.g 0 rfl; exact of_pick (decide (x28 < x25)) a0 (fun hc => by show _ = Value.bool x35; rw [q36, hc]; exact rfl) (fun hc => by have a2 : R' 73 = .bool x33 := hd 1 _ _ _ rfl rfl rfl rfl (g_and rfl (beq_of hc)); show _ = Value.bool x35; rw [q36, hc]; exact a2)) <|
       Obls.nil
     intro R w hw hs hF'
     replace h0 := (hs 0 rfl).trans h0
     replace h3 := (hs 3 rfl).trans h3
     replace h5 := (hs 5 rfl).trans h5
     replace h6 := (hs 6 rfl).trans h6
     have h74 : R 74 = .bool x35 := hF' 19 _ _ rfl rfl rfl
     replace f_u10 := f_u10.fr hw
     replace f_u6 := f_u6.fr hw
     replace f_v0 := f_v0.fr hw
     replace hA := hA.fr hw.size
     replace hF := hF.trans hw
     clear hs hF' hw
     refine seqR_nil ?_
     refine HT.cond x35 h74 (fun c37 => ?_) (fun c37 => ?_)
     ·have hr := cnd_t c37 hr
      refine HT.seq ?_
      refine HT.text (l := ⟨_, true, .raw (.bool false)⟩ :: []) (tl := []) (by kernel_rfl) (by kernel_rfl) (by kernel_rfl) ?_ ?_
      ·exact
        Obls.p (fun R' w' hw hs hd => of_assign rfl) <|
        Obls.nil
      intro R w hw hs hF'
      have h2 : R 2 = .bool false := hF' 0 _ _ rfl rfl rfl
      replace hA := hA.fr hw.size
      replace hF := hF.trans hw
      clear hs hF' hw
      refine seqR_nil ?_
      refine HT.ret ?_
      obtain rfl := Option.some.inj hr
      have hr := hr0
      replace hr : some _ = some _ := hr
      obtain rfl := Option.some.inj hr
      exact ⟨.inr rfl, [R 2], ⟨rfl, trivial⟩, h2, hF⟩
     ·have hr := cnd_f c37 hr
      refine HT.skip ?_
      obtain ⟨e38, hr⟩ := ck_some hr
      refine HT.text (l := ⟨_, true, .raw (.int .i64 y21)⟩ :: ⟨_, true, .raw (.int .i64 (y21 + (1 : Int)))⟩ :: ⟨_, true, .raw (.int .i64 (y21 + (1 : Int)))⟩ :: []) (tl := []) (by kernel_rfl) (by kernel_rfl) (by kernel_rfl) ?_ ?_
      ·exact
        Obls.p (fun R' w' hw hs hd => of_move ((hs 6 rfl).trans h6)) <|
        Obls.p (fun R' w' hw hs hd => by have a0 : R' 40 = .int .i64 y21 := hd.g 0 rfl; exact of_add a0 rfl e38) <|
        Obls.p (fun R' w' hw hs hd => by have a0 : R' 41 = .int .i64 (y21 + (1 : Int)) := hd.g 0 rfl; exact of_assign a0) <|
        Obls.nil
      intro R w hw hs hF'
      replace h0 := (hs 0 rfl).trans h0
      replace h3 := (hs 3 rfl).trans h3
      replace h5 := (hs 5 rfl).trans h5
      have h6 : R 6 = .int .i64 (y21 + (1 : Int)) := hF' 2 _ _ rfl rfl rfl
      replace f_u10 := f_u10.fr hw
      replace f_u6 := f_u6.fr hw
      replace f_v0 := f_v0.fr hw
      replace hA := hA.fr hw.size
      replace hF := hF.trans hw
      clear hs hF' hw
      refine seqR_nil ?_
      exact Exists.intro k (And.intro (Nat.lt_succ_self k) ⟨_, hr, hA, hF, h0, h3, h5, h6, f_u10, f_u6, f_v0⟩)
    ·have hr := cnd_f c22 hr
     refine HT.exit ?_
     obtain rfl := Option.some.inj hr
     exact Exists.intro _ ⟨rfl, hA, hF, h0, f_v0⟩
   rintro R w ⟨s20, rfl, hA, hF, h0, f_v0⟩
   have hr := exM_go hr
   refine HT.seq ?_
   obtain ⟨x39, q40, hr⟩ := cl_some hr
   refine HT.text (l := ⟨_, true, .raw v0⟩ :: ⟨_, true, .rep (eSl (eSl eStr)) A x39⟩ :: ⟨_, true, .rep (eSl (eSl eStr)) A x39⟩ :: []) (tl := []) (by kernel_rfl) (by kernel_rfl) (by kernel_rfl) ?_ ?_
   ·exact
     Obls.p (fun R' w' hw hs hd => of_move ((hs 0 rfl).trans h0)) <|
     Obls.p (fun R' w' hw hs hd => by have a0 : R' 75 = v0 := hd.g 0 rfl; have ra0 := (f_v0.fr hw).eq a0; exact of_call Try.call38 (M_spec_DrawCountTokens_okR (q40 rfl) (hA.fr hw.size) ra0)) <|
     Obls.p (fun R' w' hw hs hd => by have a0 : Rep (eSl (eSl eStr)) A w' (R' 76) x39 := hd.g 0 rfl; exact of_assign a0) <|
     Obls.nil
   intro R w hw hs hF'
   obtain ⟨u41, h9, f_u41⟩ : ∃ u, R 9 = u ∧ Rep (eSl (eSl eStr)) A w u x39 := ⟨_, rfl, hF' 2 _ _ rfl rfl rfl⟩
   replace hA := hA.fr hw.size
   replace hF := hF.trans hw
   clear hs hF' hw
   refine seqR_nil ?_
   refine HT.seq ?_
   obtain ⟨x42, q43, hr⟩ := cl_some hr
   refine HT.text (l := ⟨_, true, .raw u41⟩ :: ⟨_, true, .rep (eSl E_impl_TokenCount) A x42⟩ :: ⟨_, true, .rep (eSl E_impl_TokenCount) A x42⟩ :: []) (tl := []) (by kernel_rfl) (by kernel_rfl) (by kernel_rfl) ?_ ?_
   ·exact
     Obls.p (fun R' w' hw hs hd => of_move ((hs 9 rfl).trans h9)) <|
     Obls.p (fun R' w' hw hs hd => by have a0 : R' 77 = u41 := hd.g 0 rfl; have ra0 := (f_u41.fr hw).eq a0; exact of_call Try.call39 (M_impl_CountTokens_okR (q43 rfl) (hA.fr hw.size) ra0)) <|
     Obls.p (fun R' w' hw hs hd => by have a0 : Rep (eSl E_impl_TokenCount) A w' (R' 78) x42 := hd.g 0 rfl; exact of_assign a0) <|
     Obls.nil
   intro R w hw hs hF'
   replace h9 := (hs 9 rfl).trans h9
   obtain ⟨u44, h10, f_u44⟩ : ∃ u, R 10 = u ∧ Rep (eSl E_impl_TokenCount) A w u x42 := ⟨_, rfl, hF' 2 _ _ rfl rfl rfl⟩
   replace f_u41 := f_u41.fr hw
   replace hA := hA.fr hw.size
   replace hF := hF.trans hw
   clear hs hF' hw
   refine seqR_nil ?_
   refine HT.seq ?_
   obtain ⟨x45, q46, hr⟩ := cl_some hr
   refine HT.text (l := ⟨_, true, .raw u41⟩ :: ⟨_, true, .rep (eSl E_impl_TokenCount) A x45⟩ :: ⟨_, true, .rep (eSl E_impl_TokenCount) A x45⟩ :: []) (tl := []) (by kernel_rfl) (by kernel_rfl) (by kernel_rfl) ?_ ?_
   ·exact
     Obls.p (fun R' w' hw hs hd => of_move ((hs 9 rfl).trans h9)) <|
     Obls.p (fun R' w' hw hs hd => by have a0 : R' 79 = u41 := hd.g 0 rfl; have ra0 := (f_u41.fr hw).eq a0; exact of_call Try.call40 (M_spec_CountTokens_okR (q46 rfl) (hA.fr hw.size) ra0)) <|
     Obls.p (fun R' w' hw hs hd => by have a0 : Rep (eSl E_impl_TokenCount) A w' (R' 80) x45 := hd.g 0 rfl; exact of_assign a0) <|
     Obls.nil
   intro R w hw hs hF'
   replace h9 := (hs 9 rfl).trans h9
   replace h10 := (hs 10 rfl).trans h10
   obtain ⟨u47, h11, f_u47⟩ : ∃ u, R 11 = u ∧ Rep (eSl E_impl_TokenCount) A w u x45 := ⟨_, rfl, hF' 2 _ _ rfl rfl rfl⟩
   replace f_u41 := f_u41.fr hw
   replace f_u44 := f_u44.fr hw
   replace hA := hA.fr hw.size
   replace hF := hF.trans hw
   clear hs hF' hw
   refine seqR_nil ?_
   refine HT.seq ?_
   refine HT.seq ?_
   obtain ⟨x48, q49, hr⟩ := cl_some hr
   obtain ⟨x50, q51, hr⟩ := bd_some hr
   refine HT.text (l := ⟨_, true, .raw u44⟩ :: ⟨_, true, .raw (.int .i64 (x42.length : Int))⟩ :: ⟨_, true, .raw u47⟩ :: ⟨_, true, .raw (.int .i64 (x45.length : Int))⟩ :: ⟨_, true, .raw (.bool ((x42.length : Int) != (x45.length : Int)))⟩ :: ⟨_, true, .raw (.bool ((x42.length : Int) != (x45.length : Int)))⟩ :: ⟨_, (true && (((x42.length : Int) != (x45.length : Int)) == false)), .raw u44⟩ :: ⟨_, (true && (((x42.length : Int) != (x45.length : Int)) == false)), .raw (.bool x48)⟩ :: ⟨_, (true && (((x42.length : Int) != (x45.length : Int)) == false)), .raw (.bool (!x48))⟩ :: ⟨_, true, .raw (.bool x50)⟩ :: []) (tl := []) (by kernel_rfl) (by kernel_rfl) (by kernel_rfl) ?_ ?_
   ·exact
     Obls.p (fun R' w' hw hs hd => of_move ((hs 10 rfl).trans h10)) <|
     Obls.p (fun R' w' hw hs hd => by have a0 : R' 81 = u44 := hd.g 0 rfl; have ra0 := (f_u44.fr hw).eq a0; exact of_len_sl (aT := #[]) ra0 Try.underlying42) <|
     Obls.p (fun R' w' hw hs hd => of_move ((hs 11 rfl).trans h11)) <|
     Obls.p (fun R' w' hw hs hd => by have a0 : R' 83 = u47 := hd.g 0 rfl; have ra0 := (f_u47.fr hw).eq a0; exact of_len_sl (aT := #[]) ra0 Try.underlying42) <|
     Obls.p (fun R' w' hw hs hd => by have a0 : R' 82 = .int .i64 (x42.length : Int) := hd.g 0 rfl; have a1 : R' 84 = .int .i64 (x45.length : Int) := hd.g 1 rfl; exact of_neq a0 a1) <|
     Obls.p (fun R' w' hw hs hd => by have a0 : R' 85 = .bool ((x42.length : Int) != (x45.length : Int)) := hd.g 0 rfl; exact of_move a0) <|
     Obls.cons (Obl.grd 5 false _ _ _ rfl rfl rfl rfl rfl (by kernel_rfl) fun hg R' w' hw hs hd => by have a0 : R' 10 = u44 := (hs 10 rfl).trans h10; exact of_move a0) <|
     Obls.cons (Obl.grd 5 false _ _ _ rfl rfl rfl rfl rfl (by kernel_rfl) fun hg R' w' hw hs hd => by have a0 : R' 87 = u44 := hd 0 _ _ _ rfl rfl rfl rfl hg; have ra0 := (f_u44.fr hw).eq a0; exact of_call Try.call41 (M_impl_IsTokenTable_ok (q49 hg) (hA.fr hw.size) ra0)) <|
     Obls.cons (Obl.grd 5 false _ _ _ rfl rfl rfl rfl rfl (by kernel_rfl) fun hg R' w' hw hs hd => by have a0 : R' 88 = .bool x48 := hd 0 _ _ _ rfl rfl rfl rfl hg; exact of_not a0) <|
     Obls.p (fun R' w' hw hs hd => by have a0 : R' 86 = .bool ((x42.length : Int) != (x45.length : Int)) := hd.g 0 rfl; exact of_pick ((x42.length : Int) != (x45.length : Int)) a0 (fun hc => by show _ = Value.bool x50; rw [q51, hc]; exact rfl) (fun hc => by have a2 : R' 89 = .bool (!x48) := hd 1 _ _ _ rfl rfl rfl rfl (g_and rfl (beq_of hc)); show _ = Value.bool x50; rw [q51, hc]; exact a2)) <|
     Obls.nil
   intro R w hw hs hF'
   replace h9 := (hs 9 rfl).trans h9
   replace h10 := (hs 10 rfl).trans h10
   replace h11 := (hs 11 rfl).trans h11
   have h90 : R 90 = .bool x50 := hF' 9 _ _ rfl rfl rfl
   replace f_u41 := f_u41.fr hw
   replace f_u44 := f_u44.fr hw
   replace f_u47 := f_u47.fr hw
   replace hA := hA.fr hw.size
   replace hF := hF.trans hw
   clear hs hF' hw
   refine seqR_nil ?_
   refine HT.cond x50 h90 (fun c52 => ?_) (fun c52 => ?_)
   ·have hr := cnd_t c52 hr
    refine HT.seq ?_
    refine HT.text (l := ⟨_, true, .raw (.bool false)⟩ :: []) (tl := []) (by kernel_rfl) (by kernel_rfl) (by kernel_rfl) ?_ ?_
    ·exact
      Obls.p (fun R' w' hw hs hd => of_assign rfl) <|
      Obls.nil
    intro R w hw hs hF'
    have h2 : R 2 = .bool false := hF' 0 _ _ rfl rfl rfl
    replace hA := hA.fr hw.size
    replace hF := hF.trans hw
    clear hs hF' hw
    refine seqR_nil ?_
    refine HT.ret ?_
    obtain rfl := Option.some.inj hr
    exact ⟨.inr rfl, [R 2], ⟨rfl, trivial⟩, h2, hF⟩
   ·have hr := cnd_f c52 hr
    refine HT.skip ?_
    refine HT.seq ?_
    refine HT.seq ?_
    refine HT.text (l := ⟨_, true, .raw (.int .i64 (0 : Int))⟩ :: []) (tl := []) (by kernel_rfl) (by kernel_rfl) (by kernel_rfl) ?_ ?_
    ·exact
      Obls.p (fun R' w' hw hs hd => of_assign rfl) <|
      Obls.nil
    intro R w hw hs hF'
    replace h9 := (hs 9 rfl).trans h9
    replace h10 := (hs 10 rfl).trans h10
    replace h11 := (hs 11 rfl).trans h11
    have h12 : R 12 = .int .i64 (0 : Int) := hF' 0 _ _ rfl rfl rfl
    replace f_u41 := f_u41.fr hw
    replace f_u44 := f_u44.fr hw
    replace f_u47 := f_u47.fr hw
    replace hA := hA.fr hw.size
    replace hF := hF.trans hw
    clear hs hF' hw
    refine seqR_nil ?_
    obtain ⟨rl53, q54, hr⟩ := cl_some hr
    replace q54 := q54 rfl
    refine HT.cut0 (fun R w => ∃ (s55 : Unit), rl53 = Ex.go s55 ∧ AvOK A w ∧ Fr w0 w) ?_ ?_
    ·refine HT.block ?_
     refine HT.loop (fun k R w => ∃ (y56 : Int), M_laws_FnOrders_L1 fu x39 x42 x45 k y56 = some rl53 ∧ AvOK A w ∧ Fr w0 w ∧ R 9 = u41 ∧ R 10 = u44 ∧ R 11 = u47 ∧ R 12 = .int .i64 y56 ∧ Rep (eSl (eSl eStr)) A w u41 x39 ∧ Rep (eSl E_impl_TokenCount) A w u44 x42 ∧ Rep (eSl E_impl_TokenCount) A w u47 x45) fu ⟨_, q54, hA, hF, h9, h10, h11, h12, f_u41, f_u44, f_u47⟩ ?_
     have hr0 := hr; clear hr q54
     rintro k R w ⟨y56, hr, hA, hF, h9, h10, h11, h12, f_u41, f_u44, f_u47⟩
     rcases k with _ | k
     ·cases (show none = some _ from hr)
     rw [M_laws_FnOrders_L1] at hr
     refine HT.seq ?_
     refine HT.seq ?_
     refine HT.text (l := ⟨_, true, .raw (.int .i64 y56)⟩ :: ⟨_, true, .raw u44⟩ :: ⟨_, true, .raw (.int .i64 (x42.length : Int))⟩ :: ⟨_, true, .raw (.bool (decide (y56 < (x42.length : Int))))⟩ :: []) (tl := []) (by kernel_rfl) (by kernel_rfl) (by kernel_rfl) ?_ ?_
     ·exact
       Obls.p (fun R' w' hw hs hd => of_move ((hs 12 rfl).trans h12)) <|
       Obls.p (fun R' w' hw hs hd => of_move ((hs 10 rfl).trans h10)) <|
       Obls.p (fun R' w' hw hs hd => by have a0 : R' 92 = u44 := hd.g 0 rfl; have ra0 := (f_u44.fr hw).eq a0; exact of_len_sl (aT := #[]) ra0 Try.underlying42) <|
       Obls.p (fun R' w' hw hs hd => by have a0 : R' 91 = .int .i64 y56 := hd.g 0 rfl; have a1 : R' 93 = .int .i64 (x42.length : Int) := hd.g 1 rfl; exact of_lss a0 a1) <|
       Obls.nil
     intro R w hw hs hF'
     replace h9 := (hs 9 rfl).trans h9
     replace h10 := (hs 10 rfl).trans h10
     replace h11 := (hs 11 rfl).trans h11
     replace h12 := (hs 12 rfl).trans h12
     have h94 : R 94 = .bool (decide (y56 < (x42.length : Int))) := hF' 3 _ _ rfl rfl rfl
     replace f_u41 := f_u41.fr hw
     replace f_u44 := f_u44.fr hw
     replace f_u47 := f_u47.fr hw
     replace hA := hA.fr hw.size
     replace hF := hF.trans hw
     clear hs hF' hw
     refine seqR_nil ?_
     refine HT.cond (decide (y56 < (x42.length : Int))) h94 (fun c57 => ?_) (fun c57 => ?_)
     ·have hr := cnd_t c57 hr
      refine HT.skip ?_
      refine HT.seq ?_
      refine HT.block ?_
      refine HT.seq ?_
      obtain ⟨e58, hr⟩ := ck_some hr
      obtain ⟨e59, hr⟩ := ck_some hr
      obtain ⟨e60, hr⟩ := ck_some hr
      obtain ⟨x61, q62, hr⟩ := bd_some hr
      refine HT.draw (by kernel_rfl) (l := ⟨_, true, .raw u44⟩ :: ⟨_, true, .raw (.int .i64 y56)⟩ :: ⟨_, true, .qtr E_impl_TokenCount A (gtD x42 y56)⟩ :: ⟨_, true, .rep E_impl_TokenCount A (gtD x42 y56)⟩ :: ⟨_, true, .raw u47⟩ :: ⟨_, true, .raw (.int .i64 y56)⟩ :: ⟨_, true, .qtr E_impl_TokenCount A (gtD x45 y56)⟩ :: ⟨_, true, .rep E_impl_TokenCount A (gtD x45 y56)⟩ :: ⟨_, true, .raw (.bool (!((gtD x42 y56) == (gtD x45 y56))))⟩ :: ⟨_, true, .raw (.bool (!((gtD x42 y56) == (gtD x45 y56))))⟩ :: ⟨_, (true && ((!((gtD x42 y56) == (gtD x45 y56))) == false)), .raw u44⟩ :: ⟨_, (true && ((!((gtD x42 y56) == (gtD x45 y56))) == false)), .raw (.int .i64 y56)⟩ :: ⟨_, (true && ((!((gtD x42 y56) == (gtD x45 y56))) == false)), .qtr E_impl_TokenCount A (gtD x42 y56)⟩ :: ⟨_, (true && ((!((gtD x42 y56) == (gtD x45 y56))) == false)), .qtr (eInt .i64) A ((gtD x42 y56).2)⟩ :: ⟨_, (true && ((!((gtD x42 y56) == (gtD x45 y56))) == false)), .raw (.int .i64 ((gtD x42 y56).2))⟩ :: ⟨_, (true && ((!((gtD x42 y56) == (gtD x45 y56))) == false)), .raw u41⟩ :: ⟨_, (true && ((!((gtD x42 y56) == (gtD x45 y56))) == false)), .raw (.int .i64 (x39.length : Int))⟩ :: ⟨_, (true && ((!((gtD x42 y56) == (gtD x45 y56))) == false)), .raw (.bool (decide ((x39.length : Int) < ((gtD x42 y56).2))))⟩ :: ⟨_, true, .raw (.bool x61)⟩ :: []) (tl := []) (by kernel_rfl) (by kernel_rfl) (by kernel_rfl) (by kernel_rfl) ?_ ?_
      ·exact
        Obls.p (fun R' w' hw hs hd => of_move ((hs 10 rfl).trans h10)) <|
        Obls.p (fun R' w' hw hs hd => of_move ((hs 12 rfl).trans h12)) <|
        Obls.p (fun R' w' hw hs hd => by have a0 : R' 97 = u44 := hd.g 0 rfl; have a1 : R' 98 = .int .i64 y56 := hd.g 1 rfl; have ra0 := (f_u44.fr hw).eq a0; exact of_indexAddr ra0 a1 Try.underlying42 Try.sizeOf52 e58) <|
        Obls.p (fun R' w' hw hs hd => by have a0 : QRep E_impl_TokenCount A w' (R' 99) (gtD x42 y56) := hd.g 0 rfl; exact (of_load a0.ptr Try.isAgg52 Try.sizeOf52)) <|
        Obls.p (fun R' w' hw hs hd => of_move ((hs 11 rfl).trans h11)) <|
        Obls.p (fun R' w' hw hs hd => of_move ((hs 12 rfl).trans h12)) <|
        Obls.p (fun R' w' hw hs hd => by have a0 : R' 101 = u47 := hd.g 0 rfl; have a1 : R' 102 = .int .i64 y56 := hd.g 1 rfl; have ra0 := (f_u47.fr hw).eq a0; exact of_indexAddr ra0 a1 Try.underlying42 Try.sizeOf52 e59) <|
        Obls.p (fun R' w' hw hs hd => by have a0 : QRep E_impl_TokenCount A w' (R' 103) (gtD x45 y56) := hd.g 0 rfl; exact (of_load a0.ptr Try.isAgg52 Try.sizeOf52)) <|
        Obls.p (fun R' w' hw hs hd => by have a0 : Rep E_impl_TokenCount A w' (R' 100) (gtD x42 y56) := hd.g 0 rfl; have a1 : Rep E_impl_TokenCount A w' (R' 104) (gtD x45 y56) := hd.g 1 rfl; exact of_struct_neq Try.eqGuardType52 (val_impl_TokenCount a0) (val_impl_TokenCount a1) (neq_52 (gtD x42 y56) (gtD x45 y56) _)) <|
        Obls.p (fun R' w' hw hs hd => by have a0 : R' 105 = .bool (!((gtD x42 y56) == (gtD x45 y56))) := hd.g 0 rfl; exact of_move a0) <|
        Obls.cons (Obl.grd 9 false _ _ _ rfl rfl rfl rfl rfl (by kernel_rfl) fun hg R' w' hw hs hd => by have a0 : R' 10 = u44 := (hs 10 rfl).trans h10; exact of_move a0) <|
        Obls.cons (Obl.grd 9 false _ _ _ rfl rfl rfl rfl rfl (by kernel_rfl) fun hg R' w' hw hs hd => by have a0 : R' 12 = .int .i64 y56 := (hs 12 rfl).trans h12; exact of_move a0) <|
        Obls.cons (Obl.grd 9 false _ _ _ rfl rfl rfl rfl rfl (by kernel_rfl) fun hg R' w' hw hs hd => by have a0 : R' 107 = u44 := hd 0 _ _ _ rfl rfl rfl rfl hg; have a1 : R' 108 = .int .i64 y56 := hd 1 _ _ _ rfl rfl rfl rfl hg; have ra0 := (f_u44.fr hw).eq a0; exact of_indexAddr ra0 a1 Try.underlying42 Try.sizeOf52 (gd e60 hg)) <|
        Obls.cons (Obl.grd 9 false _ _ _ rfl rfl rfl rfl rfl (by kernel_rfl) fun hg R' w' hw hs hd => by have a0 : QRep E_impl_TokenCount A w' (R' 109) (gtD x42 y56) := hd 0 _ _ _ rfl rfl rfl rfl hg; exact of_fieldAddr_q a0 ff_52_1 Try.sizeOf3 (by decide) fl_impl_TokenCount_1 rfl) <|
        Obls.cons (Obl.grd 9 false _ _ _ rfl rfl rfl rfl rfl (by kernel_rfl) fun hg R' w' hw hs hd => by have a0 : QRep (eInt .i64) A w' (R' 110) ((gtD x42 y56).2) := hd 0 _ _ _ rfl rfl rfl rfl hg; exact OpF.int (of_load a0.ptr Try.isAgg3 Try.sizeOf3)) <|
        Obls.cons (Obl.grd 9 false _ _ _ rfl rfl rfl rfl rfl (by kernel_rfl) fun hg R' w' hw hs hd => by have a0 : R' 9 = u41 := (hs 9 rfl).trans h9; exact of_move a0) <|
        Obls.cons (Obl.grd 9 false _ _ _ rfl rfl rfl rfl rfl (by kernel_rfl) fun hg R' w' hw hs hd => by have a0 : R' 112 = u41 := hd 0 _ _ _ rfl rfl rfl rfl hg; have ra0 := (f_u41.fr hw).eq a0; exact of_len_sl (aT := #[]) ra0 Try.underlying47) <|
        Obls.cons (Obl.grd 9 false _ _ _ rfl rfl rfl rfl rfl (by kernel_rfl) fun hg R' w' hw hs hd => by have a0 : R' 111 = .int .i64 ((gtD x42 y56).2) := hd 0 _ _ _ rfl rfl rfl rfl hg; have a1 : R' 113 = .int .i64 (x39.length : Int) := hd 1 _ _ _ rfl rfl rfl rfl hg; exact of_gtr a0 a1) <|
        Obls.p (fun R' w' hw hs hd => by have a0 : R' 106 = .bool (!((gtD x42 y56) == (gtD x45 y56))) := hd.g 0 rfl; exact of_pick (!((gtD x42 y56) == (gtD x45 y56))) a0 (fun hc => by show _ = Value.bool x61; rw [q62, hc]; exact rfl) (fun hc => by have a2 : R' 114 = .bool (decide ((x39.length : Int) < ((gtD x42 y56).2))) := hd 1 _ _ _ rfl rfl rfl rfl (g_and rfl (beq_of hc)); show _ = Value.bool x61; rw [q62, hc]; exact a2)) <|
        Obls.nil
      intro R w hw hs hF'
      replace h9 := (hs 9 rfl).trans h9
      replace h10 := (hs 10 rfl).trans h10
      replace h11 := (hs 11 rfl).trans h11
      replace h12 := (hs 12 rfl).trans h12
      have h115 : R 115 = .bool x61 := hF' 18 _ _ rfl rfl rfl
      replace f_u41 := f_u41.fr hw
      replace f_u44 := f_u44.fr hw
      replace f_u47 := f_u47.fr hw
      replace hA := hA.fr hw.size
      replace hF := hF.trans hw
      clear hs hF' hw
      refine seqR_nil ?_
      refine HT.cond x61 h115 (fun c63 => ?_) (fun c63 => ?_)
      ·have hr := cnd_t c63 hr
       refine HT.seq ?_
       refine HT.text (l := ⟨_, true, .raw (.bool false)⟩ :: []) (tl := []) (by kernel_rfl) (by kernel_rfl) (by kernel_rfl) ?_ ?_
       ·exact
         Obls.p (fun R' w' hw hs hd => of_assign rfl) <|
         Obls.nil
       intro R w hw hs hF'
       have h2 : R 2 = .bool false := hF' 0 _ _ rfl rfl rfl
       replace hA := hA.fr hw.size
       replace hF := hF.trans hw
       clear hs hF' hw
       refine seqR_nil ?_
       refine HT.ret ?_
       obtain rfl := Option.some.inj hr
       have hr := hr0
       replace hr : some _ = some _ := hr
       obtain rfl := Option.some.inj hr
       exact ⟨.inr rfl, [R 2], ⟨rfl, trivial⟩, h2, hF⟩
      ·have hr := cnd_f c63 hr
       refine HT.skip ?_
       obtain ⟨e64, hr⟩ := ck_some hr
       refine HT.text (l := ⟨_, true, .raw (.int .i64 y56)⟩ :: ⟨_, true, .raw (.int .i64 (y56 + (1 : Int)))⟩ :: ⟨_, true, .raw (.int .i64 (y56 + (1 : Int)))⟩ :: []) (tl := []) (by kernel_rfl) (by kernel_rfl) (by kernel_rfl) ?_ ?_
       ·exact
         Obls.p (fun R' w' hw hs hd => of_move ((hs 12 rfl).trans h12)) <|
         Obls.p (fun R' w' hw hs hd => by have a0 : R' 95 = .int .i64 y56 := hd.g 0 rfl; exact of_add a0 rfl e64) <|
         Obls.p (fun R' w' hw hs hd => by have a0 : R' 96 = .int .i64 (y56 + (1 : Int)) := hd.g 0 rfl; exact of_assign a0) <|
         Obls.nil
       intro R w hw hs hF'
       replace h9 := (hs 9 rfl).trans h9
       replace h10 := (hs 10 rfl).trans h10
       replace h11 := (hs 11 rfl).trans h11
       have h12 : R 12 = .int .i64 (y56 + (1 : Int)) := hF' 2 _ _ rfl rfl rfl
       replace f_u41 := f_u41.fr hw
       replace f_u44 := f_u44.fr hw
       replace f_u47 := f_u47.fr hw
       replace hA := hA.fr hw.size
       replace hF := hF.trans hw
       clear hs hF' hw
       refine seqR_nil ?_
       exact Exists.intro k (And.intro (Nat.lt_succ_self k) ⟨_, hr, hA, hF, h9, h10, h11, h12, f_u41, f_u44, f_u47⟩)
     ·have hr := cnd_f c57 hr
      refine HT.exit ?_
      obtain rfl := Option.some.inj hr
      exact Exists.intro _ ⟨rfl, hA, hF⟩
    rintro R w ⟨s55, rfl, hA, hF⟩
    have hr := exM_go hr
    refine HT.seq ?_
    refine HT.text (l := ⟨_, true, .raw (.bool true)⟩ :: []) (tl := []) (by kernel_rfl) (by kernel_rfl) (by kernel_rfl) ?_ ?_
    ·exact
      Obls.p (fun R' w' hw hs hd => of_assign rfl) <|
      Obls.nil
    intro R w hw hs hF'
    have h2 : R 2 = .bool true := hF' 0 _ _ rfl rfl rfl
    replace hA := hA.fr hw.size
    replace hF := hF.trans hw
    clear hs hF' hw
    refine seqR_nil ?_
    refine HT.ret ?_
    obtain rfl := Option.some.inj hr
    exact ⟨.inr rfl, [R 2], ⟨rfl, trivial⟩, h2, hF⟩
end Go.Proofs.Ytofiipblinonoaa
