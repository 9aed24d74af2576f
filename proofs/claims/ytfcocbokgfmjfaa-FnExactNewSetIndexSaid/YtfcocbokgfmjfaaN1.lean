/- Printed by dec.py: plain functions and the proofs that the code computes them. No statement of the seat is proved here. -/
import Derived.Test.YtfcocbokgfmjfaaTq
namespace Go.Proofs.Ytfcocbokgfmjfaa
open Go.RowKit
set_option linter.unusedVariables false
set_option maxRecDepth 100000
set_option maxHeartbeats 4000000
def M_laws_szTokenCount (fu : Nat) (p0 : T_impl_TokenCount) (p1 : Int) : Option Int :=
 ck (i64B (p1 - (p0.1.length : Int))) <|
 bif (decide ((p1 - (p0.1.length : Int)) < (0 : Int))) then (
  some (-1 : Int)
 ) else (
  some (p1 - (p0.1.length : Int))
 )
theorem M_laws_szTokenCount_ok {fu : Nat} {A0 : Av} {p0 : T_impl_TokenCount} {p1 : Int} {r : Int} (hr : M_laws_szTokenCount fu p0 p1 = some r) {w : World} {v0 : Value} {v1 : Value} (hA : AvOK A0 w) (h0 : Rep E_impl_TokenCount A0 w v0 p0) (h1 : v1 = .int .i64 p1) :
  Calls Try.prog 58 #[v0, v1] w fun e w' => ∃ v, e = .returned v ∧ (v = .int .i64 r ∧ Fr w w') := by
 unfold M_laws_szTokenCount at hr
 obtain ⟨w0, hw0⟩ : ∃ w0, w0 = w := ⟨_, rfl⟩
 have hF : Fr w0 w := hw0 ▸ Fr.refl _
 have hA0 : ∀ b o, A0 b o → b < w0.heap.size := fun b o h => hw0 ▸ hA b o h
 have hA00 : AvOK A0 w0 := hA0
 rw [show Fr w = Fr w0 from hw0 ▸ rfl]
 clear hw0
 obtain ⟨A, hAe⟩ : ∃ A, A = A0 := ⟨_, rfl⟩
 have hAA : ∀ b o, A0 b o → A b o := fun b o h => hAe ▸ h
 replace hA : AvOK A w := hAe ▸ hA
 have hO : IniOK [] A w := IniOK.nil
 refine calls_of_HT2 [.tmp 4] Try.func58 Try.ntmps58 (by decide) rfl rfl (Nat.le_of_ble_eq_true rfl) ?_
 intro R hR
 have f_v0 : Rep E_impl_TokenCount A w v0 p0 := hAe ▸ h0
 replace h0 : R 0 = v0 := hR 0 _ rfl
 replace h1 : R 1 = .int .i64 p1 := (hR 1 _ rfl).trans h1
 clear hR hAe
 refine HT.seq ?_
 refine HT.textR [] (⟨_, true, [], some (.box w0.heap.size 74 E_impl_TokenCount p0), true, fun A => .any⟩ :: ⟨_, true, [], none, true, fun A => .raw (.int .i64 (0 : Int))⟩ :: []) (by kernel_rfl) (by kernel_rfl) (Wf.mk' (by kernel_rfl) (UAll.cons ust_any (UAll.cons ust_raw (UAll.nil))) (by kernel_rfl) (by kernel_rfl)) hO hA ?_ ?_
 ·exact
   OblsR.cons (OblR.made _ rfl rfl rfl rfl fun A' R' w' ho hd => by have a0 : R' 0 = v0 := (ho.old 0 rfl).trans h0; have ra0 := (f_v0.stp ho.stp).eq a0; exact made_box ra0 (Nat.le_trans hF.size ho.ch.size)) <|
   OblsR.p (fun A' R' w' ho hd => of_assign rfl) <|
   OblsR.nil
 intro done ρ σ A R w hdn hI
 replace h1 : R 1 = .int .i64 p1 := (hI.reg rfl).trans h1
 obtain ⟨b2_0, e_b2_0⟩ := hI.boxv hdn 0 rfl rfl
 have h2 : R 2 = (.pointer (some ⟨b2_0, 0, none⟩)) := (hI.opvR hdn 0 0 rfl rfl rfl rfl rfl).symm.trans e_b2_0
 replace hAA := hI.low' hAA hA0 (hO.ge (trivial))
 replace hF : Fr w0 w := hF.tr hI.ch (hO.ge (trivial))
 replace hO : IniOK [ob (.pointer (some ⟨b2_0, 0, none⟩)) (.box w0.heap.size 74 E_impl_TokenCount p0)] A w := hI.left hdn [(0, ob (.pointer (some ⟨b2_0, 0, none⟩)) (.box w0.heap.size 74 E_impl_TokenCount p0))] ⟨rfl, rfl, e_b2_0, rfl, rfl, trivial⟩
 replace hA := hI.avok
 clear hI
 refine HT.seq ?_
 obtain ⟨e2, hr⟩ := ck_some hr
 refine HT.text (l := ⟨_, true, .raw (.int .i64 p1)⟩ :: ⟨_, true, .raw (.pointer (some ⟨b2_0, 0, none⟩))⟩ :: ⟨_, true, .rep eStr A p0.1⟩ :: ⟨_, true, .raw (.int .i64 (p0.1.length : Int))⟩ :: ⟨_, true, .raw (.int .i64 (p1 - (p0.1.length : Int)))⟩ :: ⟨_, true, .raw (.int .i64 (p1 - (p0.1.length : Int)))⟩ :: []) (tl := []) (by kernel_rfl) (by kernel_rfl) (by kernel_rfl) ?_ ?_
 ·exact
   Obls.p (fun R' w' hw hs hd => of_move ((hs 1 rfl).trans h1)) <|
   Obls.p (fun R' w' hw hs hd => of_fieldAddr_raw ((hs 2 rfl).trans h2) ff_74_0 Try.sizeOf9 (by decide) rfl) <|
   Obls.p (fun R' w' hw hs hd => by have a0 : R' 6 = (.pointer (some ⟨b2_0, 0, none⟩)) := hd.g 0 rfl; exact (of_load_box ((hO.fr hw).ok 0 _ rfl).1 a0 fl_impl_TokenCount_0 rfl Try.isAgg9 Try.sizeOf9)) <|
   Obls.p (fun R' w' hw hs hd => by have a0 : Rep eStr A w' (R' 7) p0.1 := hd.g 0 rfl; exact of_len_str a0 Try.underlying9) <|
   Obls.p (fun R' w' hw hs hd => by have a0 : R' 5 = .int .i64 p1 := hd.g 0 rfl; have a1 : R' 8 = .int .i64 (p0.1.length : Int) := hd.g 1 rfl; exact of_sub a0 a1 e2) <|
   Obls.p (fun R' w' hw hs hd => by have a0 : R' 9 = .int .i64 (p1 - (p0.1.length : Int)) := hd.g 0 rfl; exact of_assign a0) <|
   Obls.nil
 intro R w hw hs hF'
 have h1 : R 1 = .int .i64 (p1 - (p0.1.length : Int)) := hF' 5 _ _ rfl rfl rfl
 replace hO := hO.fr hw
 replace hO : IniOK [] A w := hO.sub [] trivial
 replace hA := hA.fr hw.size
 replace hF := hF.trans hw
 clear hs hF' hw
 refine seqR_nil ?_
 refine HT.seq ?_
 refine HT.seq ?_
 refine HT.text (l := ⟨_, true, .raw (.int .i64 (p1 - (p0.1.length : Int)))⟩ :: ⟨_, true, .raw (.bool (decide ((p1 - (p0.1.length : Int)) < (0 : Int))))⟩ :: []) (tl := []) (by kernel_rfl) (by kernel_rfl) (by kernel_rfl) ?_ ?_
 ·exact
   Obls.p (fun R' w' hw hs hd => of_move ((hs 1 rfl).trans h1)) <|
   Obls.p (fun R' w' hw hs hd => by have a0 : R' 10 = .int .i64 (p1 - (p0.1.length : Int)) := hd.g 0 rfl; exact of_lss a0 rfl) <|
   Obls.nil
 intro R w hw hs hF'
 replace h1 := (hs 1 rfl).trans h1
 have h11 : R 11 = .bool (decide ((p1 - (p0.1.length : Int)) < (0 : Int))) := hF' 1 _ _ rfl rfl rfl
 replace hO := hO.fr hw
 replace hA := hA.fr hw.size
 replace hF := hF.trans hw
 clear hs hF' hw
 refine seqR_nil ?_
 refine HT.cond (decide ((p1 - (p0.1.length : Int)) < (0 : Int))) h11 (fun c3 => ?_) (fun c3 => ?_)
 ·have hr := cnd_t c3 hr
  refine HT.seq ?_
  refine HT.text (l := ⟨_, true, .raw (.int .i64 (-1 : Int))⟩ :: []) (tl := []) (by kernel_rfl) (by kernel_rfl) (by kernel_rfl) ?_ ?_
  ·exact
    Obls.p (fun R' w' hw hs hd => of_assign rfl) <|
    Obls.nil
  intro R w hw hs hF'
  have h4 : R 4 = .int .i64 (-1 : Int) := hF' 0 _ _ rfl rfl rfl
  replace hO := hO.fr hw
  replace hA := hA.fr hw.size
  replace hF := hF.trans hw
  clear hs hF' hw
  refine seqR_nil ?_
  refine HT.ret ?_
  obtain rfl := Option.some.inj hr
  exact ⟨.inr rfl, [R 4], ⟨rfl, trivial⟩, h4, hF⟩
 ·have hr := cnd_f c3 hr
  refine HT.skip ?_
  refine HT.seq ?_
  refine HT.text (l := ⟨_, true, .raw (.int .i64 (p1 - (p0.1.length : Int)))⟩ :: ⟨_, true, .raw (.int .i64 (p1 - (p0.1.length : Int)))⟩ :: []) (tl := []) (by kernel_rfl) (by kernel_rfl) (by kernel_rfl) ?_ ?_
  ·exact
    Obls.p (fun R' w' hw hs hd => of_move ((hs 1 rfl).trans h1)) <|
    Obls.p (fun R' w' hw hs hd => by have a0 : R' 12 = .int .i64 (p1 - (p0.1.length : Int)) := hd.g 0 rfl; exact of_assign a0) <|
    Obls.nil
  intro R w hw hs hF'
  have h4 : R 4 = .int .i64 (p1 - (p0.1.length : Int)) := hF' 1 _ _ rfl rfl rfl
  replace hO := hO.fr hw
  replace hA := hA.fr hw.size
  replace hF := hF.trans hw
  clear hs hF' hw
  refine seqR_nil ?_
  refine HT.ret ?_
  obtain rfl := Option.some.inj hr
  exact ⟨.inr rfl, [R 4], ⟨rfl, trivial⟩, h4, hF⟩
def M_laws_szTokenCountS_L0 (fu : Nat) (p0 : List T_impl_TokenCount) : Nat → Int → Int → Option (Ex Int Int)
 | 0, _, _ => none
 | k + 1, y6, y7 =>
  bif (decide (y7 < (p0.length : Int))) then (
   ck (inR y7 p0.length) <|
   cl true (M_laws_szTokenCount fu (gtD p0 y7) y6) fun x10 =>
   bif (decide (x10 < (0 : Int))) then (
    some (Ex.ret (-1 : Int))
   ) else (
    ck (i64B (y7 + (1 : Int))) <|
    M_laws_szTokenCountS_L0 fu p0 k x10 (y7 + (1 : Int))
   )
  ) else (
   some (Ex.go y6)
  )
def M_laws_szTokenCountS (fu : Nat) (p0 : List T_impl_TokenCount) (p1 : Int) : Option Int :=
 ck (i64B (p1 - (p0.length : Int))) <|
 bif (decide ((p1 - (p0.length : Int)) < (0 : Int))) then (
  some (-1 : Int)
 ) else (
  cl true (M_laws_szTokenCountS_L0 fu p0 fu (p1 - (p0.length : Int)) (0 : Int)) fun rl3 =>
  exM rl3 (fun r => some r) fun s5 =>
  some s5
 )
theorem M_laws_szTokenCountS_ok {fu : Nat} {A : Av} {p0 : List T_impl_TokenCount} {p1 : Int} {r : Int} (hr : M_laws_szTokenCountS fu p0 p1 = some r) {w : World} {v0 : Value} {v1 : Value} (hA : AvOK A w) (h0 : Rep (eSl E_impl_TokenCount) A w v0 p0) (h1 : v1 = .int .i64 p1) :
  Calls Try.prog 13 #[v0, v1] w fun e w' => ∃ v, e = .returned v ∧ (v = .int .i64 r ∧ Fr w w') := by
 unfold M_laws_szTokenCountS at hr
 obtain ⟨w0, hw0⟩ : ∃ w0, w0 = w := ⟨_, rfl⟩
 have hF : Fr w0 w := hw0 ▸ Fr.refl _
 rw [show Fr w = Fr w0 from hw0 ▸ rfl]
 clear hw0
 refine calls_of_HT2 [.tmp 4] Try.func13 Try.ntmps13 (by decide) rfl rfl (Nat.le_of_ble_eq_true rfl) ?_
 intro R hR
 have f_v0 := h0
 replace h0 : R 0 = v0 := hR 0 _ rfl
 replace h1 : R 1 = .int .i64 p1 := (hR 1 _ rfl).trans h1
 clear hR
 refine HT.seq ?_
 refine HT.text (l := ⟨_, true, .raw (.int .i64 (0 : Int))⟩ :: []) (tl := []) (by kernel_rfl) (by kernel_rfl) (by kernel_rfl) ?_ ?_
 ·exact
   Obls.p (fun R' w' hw hs hd => of_assign rfl) <|
   Obls.nil
 intro R w hw hs hF'
 replace h0 := (hs 0 rfl).trans h0
 replace h1 := (hs 1 rfl).trans h1
 replace f_v0 := f_v0.fr hw
 replace hA := hA.fr hw.size
 replace hF := hF.trans hw
 clear hs hF' hw
 refine seqR_nil ?_
 refine HT.seq ?_
 obtain ⟨e1, hr⟩ := ck_some hr
 refine HT.text (l := ⟨_, true, .raw (.int .i64 p1)⟩ :: ⟨_, true, .raw v0⟩ :: ⟨_, true, .raw (.int .i64 (p0.length : Int))⟩ :: ⟨_, true, .raw (.int .i64 (p1 - (p0.length : Int)))⟩ :: ⟨_, true, .raw (.int .i64 (p1 - (p0.length : Int)))⟩ :: []) (tl := []) (by kernel_rfl) (by kernel_rfl) (by kernel_rfl) ?_ ?_
 ·exact
   Obls.p (fun R' w' hw hs hd => of_move ((hs 1 rfl).trans h1)) <|
   Obls.p (fun R' w' hw hs hd => of_move ((hs 0 rfl).trans h0)) <|
   Obls.p (fun R' w' hw hs hd => by have a0 : R' 7 = v0 := hd.g 0 rfl; have ra0 := (f_v0.fr hw).eq a0; exact of_len_sl (aT := #[]) ra0 Try.underlying22) <|
   Obls.p (fun R' w' hw hs hd => by have a0 : R' 6 = .int .i64 p1 := hd.g 0 rfl; have a1 : R' 8 = .int .i64 (p0.length : Int) := hd.g 1 rfl; exact of_sub a0 a1 e1) <|
   Obls.p (fun R' w' hw hs hd => by have a0 : R' 9 = .int .i64 (p1 - (p0.length : Int)) := hd.g 0 rfl; exact of_assign a0) <|
   Obls.nil
 intro R w hw hs hF'
 replace h0 := (hs 0 rfl).trans h0
 have h1 : R 1 = .int .i64 (p1 - (p0.length : Int)) := hF' 4 _ _ rfl rfl rfl
 replace f_v0 := f_v0.fr hw
 replace hA := hA.fr hw.size
 replace hF := hF.trans hw
 clear hs hF' hw
 refine seqR_nil ?_
 refine HT.seq ?_
 refine HT.seq ?_
 refine HT.text (l := ⟨_, true, .raw (.int .i64 (p1 - (p0.length : Int)))⟩ :: ⟨_, true, .raw (.bool (decide ((p1 - (p0.length : Int)) < (0 : Int))))⟩ :: []) (tl := []) (by kernel_rfl) (by kernel_rfl) (by kernel_rfl) ?_ ?_
 ·exact
   Obls.p (fun R' w' hw hs hd => of_move ((hs 1 rfl).trans h1)) <|
   Obls.p (fun R' w' hw hs hd => by have a0 : R' 10 = .int .i64 (p1 - (p0.length : Int)) := hd.g 0 rfl; exact of_lss a0 rfl) <|
   Obls.nil
 intro R w hw hs hF'
 replace h0 := (hs 0 rfl).trans h0
 replace h1 := (hs 1 rfl).trans h1
 have h11 : R 11 = .bool (decide ((p1 - (p0.length : Int)) < (0 : Int))) := hF' 1 _ _ rfl rfl rfl
 replace f_v0 := f_v0.fr hw
 replace hA := hA.fr hw.size
 replace hF := hF.trans hw
 clear hs hF' hw
 refine seqR_nil ?_
 refine HT.cond (decide ((p1 - (p0.length : Int)) < (0 : Int))) h11 (fun c2 => ?_) (fun c2 => ?_)
 ·have hr := cnd_t c2 hr
  refine HT.seq ?_
  refine HT.text (l := ⟨_, true, .raw (.int .i64 (-1 : Int))⟩ :: []) (tl := []) (by kernel_rfl) (by kernel_rfl) (by kernel_rfl) ?_ ?_
  ·exact
    Obls.p (fun R' w' hw hs hd => of_assign rfl) <|
    Obls.nil
  intro R w hw hs hF'
  have h4 : R 4 = .int .i64 (-1 : Int) := hF' 0 _ _ rfl rfl rfl
  replace hA := hA.fr hw.size
  replace hF := hF.trans hw
  clear hs hF' hw
  refine seqR_nil ?_
  refine HT.ret ?_
  obtain rfl := Option.some.inj hr
  exact ⟨.inr rfl, [R 4], ⟨rfl, trivial⟩, h4, hF⟩
 ·have hr := cnd_f c2 hr
  refine HT.skip ?_
  refine HT.seq ?_
  refine HT.seq ?_
  refine HT.text (l := ⟨_, true, .raw (.int .i64 (0 : Int))⟩ :: []) (tl := []) (by kernel_rfl) (by kernel_rfl) (by kernel_rfl) ?_ ?_
  ·exact
    Obls.p (fun R' w' hw hs hd => of_assign rfl) <|
    Obls.nil
  intro R w hw hs hF'
  replace h0 := (hs 0 rfl).trans h0
  replace h1 := (hs 1 rfl).trans h1
  have h5 : R 5 = .int .i64 (0 : Int) := hF' 0 _ _ rfl rfl rfl
  replace f_v0 := f_v0.fr hw
  replace hA := hA.fr hw.size
  replace hF := hF.trans hw
  clear hs hF' hw
  refine seqR_nil ?_
  obtain ⟨rl3, q4, hr⟩ := cl_some hr
  replace q4 := q4 rfl
  refine HT.cut0 (fun R w => ∃ (s5 : Int), rl3 = Ex.go s5 ∧ AvOK A w ∧ Fr w0 w ∧ R 1 = .int .i64 s5) ?_ ?_
  ·refine HT.block ?_
   refine HT.loop (fun k R w => ∃ (y6 : Int) (y7 : Int), M_laws_szTokenCountS_L0 fu p0 k y6 y7 = some rl3 ∧ AvOK A w ∧ Fr w0 w ∧ R 0 = v0 ∧ R 1 = .int .i64 y6 ∧ R 5 = .int .i64 y7 ∧ Rep (eSl E_impl_TokenCount) A w v0 p0) fu ⟨_, _, q4, hA, hF, h0, h1, h5, f_v0⟩ ?_
   have hr0 := hr; clear hr q4
   rintro k R w ⟨y6, y7, hr, hA, hF, h0, h1, h5, f_v0⟩
   rcases k with _ | k
   ·cases (show none = some _ from hr)
   rw [M_laws_szTokenCountS_L0] at hr
   refine HT.seq ?_
   refine HT.seq ?_
   refine HT.text (l := ⟨_, true, .raw (.int .i64 y7)⟩ :: ⟨_, true, .raw v0⟩ :: ⟨_, true, .raw (.int .i64 (p0.length : Int))⟩ :: ⟨_, true, .raw (.bool (decide (y7 < (p0.length : Int))))⟩ :: []) (tl := []) (by kernel_rfl) (by kernel_rfl) (by kernel_rfl) ?_ ?_
   ·exact
     Obls.p (fun R' w' hw hs hd => of_move ((hs 5 rfl).trans h5)) <|
     Obls.p (fun R' w' hw hs hd => of_move ((hs 0 rfl).trans h0)) <|
     Obls.p (fun R' w' hw hs hd => by have a0 : R' 13 = v0 := hd.g 0 rfl; have ra0 := (f_v0.fr hw).eq a0; exact of_len_sl (aT := #[]) ra0 Try.underlying22) <|
     Obls.p (fun R' w' hw hs hd => by have a0 : R' 12 = .int .i64 y7 := hd.g 0 rfl; have a1 : R' 14 = .int .i64 (p0.length : Int) := hd.g 1 rfl; exact of_lss a0 a1) <|
     Obls.nil
   intro R w hw hs hF'
   replace h0 := (hs 0 rfl).trans h0
   replace h1 := (hs 1 rfl).trans h1
   replace h5 := (hs 5 rfl).trans h5
   have h15 : R 15 = .bool (decide (y7 < (p0.length : Int))) := hF' 3 _ _ rfl rfl rfl
   replace f_v0 := f_v0.fr hw
   replace hA := hA.fr hw.size
   replace hF := hF.trans hw
   clear hs hF' hw
   refine seqR_nil ?_
   refine HT.cond (decide (y7 < (p0.length : Int))) h15 (fun c8 => ?_) (fun c8 => ?_)
   ·have hr := cnd_t c8 hr
    refine HT.skip ?_
    refine HT.seq ?_
    refine HT.block ?_
    refine HT.seq ?_
    obtain ⟨e9, hr⟩ := ck_some hr
    obtain ⟨x10, q11, hr⟩ := cl_some hr
    refine HT.text (l := ⟨_, true, .raw v0⟩ :: ⟨_, true, .raw (.int .i64 y7)⟩ :: ⟨_, true, .qtr E_impl_TokenCount A (gtD p0 y7)⟩ :: ⟨_, true, .rep E_impl_TokenCount A (gtD p0 y7)⟩ :: ⟨_, true, .raw (.int .i64 y6)⟩ :: ⟨_, true, .raw (.int .i64 x10)⟩ :: ⟨_, true, .raw (.int .i64 x10)⟩ :: []) (tl := []) (by kernel_rfl) (by kernel_rfl) (by kernel_rfl) ?_ ?_
    ·exact
      Obls.p (fun R' w' hw hs hd => of_move ((hs 0 rfl).trans h0)) <|
      Obls.p (fun R' w' hw hs hd => of_move ((hs 5 rfl).trans h5)) <|
      Obls.p (fun R' w' hw hs hd => by have a0 : R' 18 = v0 := hd.g 0 rfl; have a1 : R' 19 = .int .i64 y7 := hd.g 1 rfl; have ra0 := (f_v0.fr hw).eq a0; exact of_indexAddr ra0 a1 Try.underlying22 Try.sizeOf74 e9) <|
      Obls.p (fun R' w' hw hs hd => by have a0 : QRep E_impl_TokenCount A w' (R' 20) (gtD p0 y7) := hd.g 0 rfl; exact (of_load a0.ptr Try.isAgg74 Try.sizeOf74)) <|
      Obls.p (fun R' w' hw hs hd => of_move ((hs 1 rfl).trans h1)) <|
      Obls.p (fun R' w' hw hs hd => by have a0 : Rep E_impl_TokenCount A w' (R' 21) (gtD p0 y7) := hd.g 0 rfl; have a1 : R' 22 = .int .i64 y6 := hd.g 1 rfl; exact of_call Try.call58 (M_laws_szTokenCount_ok (q11 rfl) (hA.fr hw.size) a0 a1)) <|
      Obls.p (fun R' w' hw hs hd => by have a0 : R' 23 = .int .i64 x10 := hd.g 0 rfl; exact of_assign a0) <|
      Obls.nil
    intro R w hw hs hF'
    replace h0 := (hs 0 rfl).trans h0
    replace h5 := (hs 5 rfl).trans h5
    have h1 : R 1 = .int .i64 x10 := hF' 6 _ _ rfl rfl rfl
    replace f_v0 := f_v0.fr hw
    replace hA := hA.fr hw.size
    replace hF := hF.trans hw
    clear hs hF' hw
    refine seqR_nil ?_
    refine HT.seq ?_
    refine HT.text (l := ⟨_, true, .raw (.int .i64 x10)⟩ :: ⟨_, true, .raw (.bool (decide (x10 < (0 : Int))))⟩ :: []) (tl := []) (by kernel_rfl) (by kernel_rfl) (by kernel_rfl) ?_ ?_
    ·exact
      Obls.p (fun R' w' hw hs hd => of_move ((hs 1 rfl).trans h1)) <|
      Obls.p (fun R' w' hw hs hd => by have a0 : R' 24 = .int .i64 x10 := hd.g 0 rfl; exact of_lss a0 rfl) <|
      Obls.nil
    intro R w hw hs hF'
    replace h0 := (hs 0 rfl).trans h0
    replace h1 := (hs 1 rfl).trans h1
    replace h5 := (hs 5 rfl).trans h5
    have h25 : R 25 = .bool (decide (x10 < (0 : Int))) := hF' 1 _ _ rfl rfl rfl
    replace f_v0 := f_v0.fr hw
    replace hA := hA.fr hw.size
    replace hF := hF.trans hw
    clear hs hF' hw
    refine seqR_nil ?_
    refine HT.cond (decide (x10 < (0 : Int))) h25 (fun c12 => ?_) (fun c12 => ?_)
    ·have hr := cnd_t c12 hr
     refine HT.seq ?_
     refine HT.text (l := ⟨_, true, .raw (.int .i64 (-1 : Int))⟩ :: []) (tl := []) (by kernel_rfl) (by kernel_rfl) (by kernel_rfl) ?_ ?_
     ·exact
       Obls.p (fun R' w' hw hs hd => of_assign rfl) <|
       Obls.nil
     intro R w hw hs hF'
     have h4 : R 4 = .int .i64 (-1 : Int) := hF' 0 _ _ rfl rfl rfl
     replace hA := hA.fr hw.size
     replace hF := hF.trans hw
     clear hs hF' hw
     refine seqR_nil ?_
     refine HT.ret ?_
     obtain rfl := Option.some.inj hr
     have hr := hr0
     replace hr : some _ = some _ := hr
     obtain rfl := Option.some.inj hr
     exact ⟨.inr rfl, [R 4], ⟨rfl, trivial⟩, h4, hF⟩
    ·have hr := cnd_f c12 hr
     refine HT.skip ?_
     obtain ⟨e13, hr⟩ := ck_some hr
     refine HT.text (l := ⟨_, true, .raw (.int .i64 y7)⟩ :: ⟨_, true, .raw (.int .i64 (y7 + (1 : Int)))⟩ :: ⟨_, true, .raw (.int .i64 (y7 + (1 : Int)))⟩ :: []) (tl := []) (by kernel_rfl) (by kernel_rfl) (by kernel_rfl) ?_ ?_
     ·exact
       Obls.p (fun R' w' hw hs hd => of_move ((hs 5 rfl).trans h5)) <|
       Obls.p (fun R' w' hw hs hd => by have a0 : R' 16 = .int .i64 y7 := hd.g 0 rfl; exact of_add a0 rfl e13) <|
       Obls.p (fun R' w' hw hs hd => by have a0 : R' 17 = .int .i64 (y7 + (1 : Int)) := hd.g 0 rfl; exact of_assign a0) <|
       Obls.nil
     intro R w hw hs hF'
     replace h0 := (hs 0 rfl).trans h0
     replace h1 := (hs 1 rfl).trans h1
     have h5 : R 5 = .int .i64 (y7 + (1 : Int)) := hF' 2 _ _ rfl rfl rfl
     replace f_v0 := f_v0.fr hw
     replace hA := hA.fr hw.size
     replace hF := hF.trans hw
     clear hs hF' hw
     refine seqR_nil ?_
     exact Exists.intro k (And.intro (Nat.lt_succ_self k) ⟨_, _, hr, hA, hF, h0, h1, h5, f_v0⟩)
   ·have hr := cnd_f c8 hr
    refine HT.exit ?_
    obtain rfl := Option.some.inj hr
    exact Exists.intro _ ⟨rfl, hA, hF, h1⟩
  rintro R w ⟨s5, rfl, hA, hF, h1⟩
  have hr := exM_go hr
  refine HT.seq ?_
  refine HT.text (l := ⟨_, true, .raw (.int .i64 s5)⟩ :: ⟨_, true, .raw (.int .i64 s5)⟩ :: []) (tl := []) (by kernel_rfl) (by kernel_rfl) (by kernel_rfl) ?_ ?_
  ·exact
    Obls.p (fun R' w' hw hs hd => of_move ((hs 1 rfl).trans h1)) <|
    Obls.p (fun R' w' hw hs hd => by have a0 : R' 26 = .int .i64 s5 := hd.g 0 rfl; exact of_assign a0) <|
    Obls.nil
  intro R w hw hs hF'
  have h4 : R 4 = .int .i64 s5 := hF' 1 _ _ rfl rfl rfl
  replace hA := hA.fr hw.size
  replace hF := hF.trans hw
  clear hs hF' hw
  refine seqR_nil ?_
  refine HT.ret ?_
  obtain rfl := Option.some.inj hr
  exact ⟨.inr rfl, [R 4], ⟨rfl, trivial⟩, h4, hF⟩
def M_laws_toTokenCount (fu : Nat) (p0 : T_impl_TokenCount) : Option T_impl_TokenCount :=
 some (p0.1, p0.2)
theorem M_laws_toTokenCount_ok {fu : Nat} {A0 : Av} {p0 : T_impl_TokenCount} {r : T_impl_TokenCount} (hr : M_laws_toTokenCount fu p0 = some r) {w : World} {v0 : Value} (hA : AvOK A0 w) (h0 : Rep E_impl_TokenCount A0 w v0 p0) :
  Calls Try.prog 60 #[v0] w fun e w' => ∃ v, e = .returned v ∧ (Rep E_impl_TokenCount A0 w' v r ∧ Fr w w') := by
 unfold M_laws_toTokenCount at hr
 obtain ⟨w0, hw0⟩ : ∃ w0, w0 = w := ⟨_, rfl⟩
 have hF : Fr w0 w := hw0 ▸ Fr.refl _
 have hA0 : ∀ b o, A0 b o → b < w0.heap.size := fun b o h => hw0 ▸ hA b o h
 have hA00 : AvOK A0 w0 := hA0
 rw [show Fr w = Fr w0 from hw0 ▸ rfl]
 clear hw0
 obtain ⟨A, hAe⟩ : ∃ A, A = A0 := ⟨_, rfl⟩
 have hAA : ∀ b o, A0 b o → A b o := fun b o h => hAe ▸ h
 replace hA : AvOK A w := hAe ▸ hA
 have hO : IniOK [] A w := IniOK.nil
 refine calls_of_HT2 [.cell 2 76] Try.func60 Try.ntmps60 (by decide) rfl rfl (Nat.le_of_ble_eq_true rfl) ?_
 intro R hR
 have f_v0 : Rep E_impl_TokenCount A w v0 p0 := hAe ▸ h0
 replace h0 : R 0 = v0 := hR 0 _ rfl
 clear hR hAe
 refine HT.seq ?_
 refine HT.textR [] (⟨_, true, [], some (.box w0.heap.size 74 E_impl_TokenCount p0), true, fun A => .any⟩ :: ⟨_, true, [], some (.box w0.heap.size 76 E_impl_TokenCount (([] : List UInt8), (0 : Int))), true, fun A => .any⟩ :: []) (by kernel_rfl) (by kernel_rfl) (Wf.mk' (by kernel_rfl) (UAll.cons ust_any (UAll.cons ust_any (UAll.nil))) (by kernel_rfl) (by kernel_rfl)) hO hA ?_ ?_
 ·exact
   OblsR.cons (OblR.made _ rfl rfl rfl rfl fun A' R' w' ho hd => by have a0 : R' 0 = v0 := (ho.old 0 rfl).trans h0; have ra0 := (f_v0.stp ho.stp).eq a0; exact made_box ra0 (Nat.le_trans hF.size ho.ch.size)) <|
   OblsR.cons (OblR.made _ rfl rfl rfl rfl fun A' R' w' ho hd => by exact made_alloc Try.zeroValue76 (fun A w => rep_pr (rep1_str rfl (by decide)) rep1_int) (Nat.le_trans hF.size ho.ch.size)) <|
   OblsR.nil
 intro done ρ σ A R w hdn hI
 obtain ⟨b1_0, e_b1_0⟩ := hI.boxv hdn 0 rfl rfl
 have h1 : R 1 = (.pointer (some ⟨b1_0, 0, none⟩)) := (hI.opvR hdn 0 0 rfl rfl rfl rfl rfl).symm.trans e_b1_0
 obtain ⟨b2_1, e_b2_1⟩ := hI.boxv hdn 1 rfl rfl
 have h2 : R 2 = (.pointer (some ⟨b2_1, 0, none⟩)) := (hI.opvR hdn 1 1 rfl rfl rfl rfl rfl).symm.trans e_b2_1
 replace hAA := hI.low' hAA hA0 (hO.ge (trivial))
 replace hF : Fr w0 w := hF.tr hI.ch (hO.ge (trivial))
 replace hO : IniOK [ob (.pointer (some ⟨b1_0, 0, none⟩)) (.box w0.heap.size 74 E_impl_TokenCount p0), ob (.pointer (some ⟨b2_1, 0, none⟩)) (.box w0.heap.size 76 E_impl_TokenCount (([] : List UInt8), (0 : Int)))] A w := hI.left hdn [(0, ob (.pointer (some ⟨b1_0, 0, none⟩)) (.box w0.heap.size 74 E_impl_TokenCount p0)), (1, ob (.pointer (some ⟨b2_1, 0, none⟩)) (.box w0.heap.size 76 E_impl_TokenCount (([] : List UInt8), (0 : Int))))] ⟨rfl, rfl, e_b1_0, rfl, rfl, ⟨rfl, rfl, e_b2_1, rfl, rfl, trivial⟩⟩
 replace hA := hI.avok
 clear hI
 refine HT.seq ?_
 refine HT.textR [ob (.pointer (some ⟨b1_0, 0, none⟩)) (.box w0.heap.size 74 E_impl_TokenCount p0), ob (.pointer (some ⟨b2_1, 0, none⟩)) (.box w0.heap.size 76 E_impl_TokenCount (([] : List UInt8), (0 : Int)))] (⟨_, true, [], some (.box w0.heap.size 76 E_impl_TokenCount (([] : List UInt8), (0 : Int))), true, fun A => .any⟩ :: []) (by kernel_rfl) (by kernel_rfl) (Wf.mk' (by kernel_rfl) (UAll.cons ust_any (UAll.nil)) (by kernel_rfl) (by kernel_rfl)) hO hA ?_ ?_
 ·exact
   OblsR.cons (OblR.made _ rfl rfl rfl rfl fun A' R' w' ho hd => by exact made_alloc Try.zeroValue76 (fun A w => rep_pr (rep1_str rfl (by decide)) rep1_int) (Nat.le_trans hF.size ho.ch.size)) <|
   OblsR.nil
 intro done ρ σ A R w hdn hI
 replace h1 : R 1 = (.pointer (some ⟨b1_0, 0, none⟩)) := (hI.reg rfl).trans h1
 replace h2 : R 2 = (.pointer (some ⟨b2_1, 0, none⟩)) := (hI.reg rfl).trans h2
 have z3 := hI.inivR 0 rfl
 have z4 := hI.inivR 1 rfl
 obtain ⟨b3_4, e_b3_4⟩ := hI.boxv hdn 2 rfl rfl
 have h3 : R 3 = (.pointer (some ⟨b3_4, 0, none⟩)) := (hI.opvR hdn 2 0 rfl rfl rfl rfl rfl).symm.trans e_b3_4
 replace hAA := hI.low' hAA hA0 (hO.ge (⟨rfl, ⟨rfl, trivial⟩⟩))
 replace hF : Fr w0 w := hF.tr hI.ch (hO.ge (⟨rfl, ⟨rfl, trivial⟩⟩))
 replace hO : IniOK [ob (.pointer (some ⟨b1_0, 0, none⟩)) (.box w0.heap.size 74 E_impl_TokenCount p0), ob (.pointer (some ⟨b2_1, 0, none⟩)) (.box w0.heap.size 76 E_impl_TokenCount (([] : List UInt8), (0 : Int))), ob (.pointer (some ⟨b3_4, 0, none⟩)) (.box w0.heap.size 76 E_impl_TokenCount (([] : List UInt8), (0 : Int)))] A w := hI.left hdn [(0, ob (.pointer (some ⟨b1_0, 0, none⟩)) (.box w0.heap.size 74 E_impl_TokenCount p0)), (1, ob (.pointer (some ⟨b2_1, 0, none⟩)) (.box w0.heap.size 76 E_impl_TokenCount (([] : List UInt8), (0 : Int)))), (2, ob (.pointer (some ⟨b3_4, 0, none⟩)) (.box w0.heap.size 76 E_impl_TokenCount (([] : List UInt8), (0 : Int))))] ⟨rfl, rfl, z3, rfl, rfl, ⟨rfl, rfl, z4, rfl, rfl, ⟨rfl, rfl, e_b3_4, rfl, rfl, trivial⟩⟩⟩
 replace hA := hI.avok
 clear hI
 refine HT.seq ?_
 refine HT.textR [ob (.pointer (some ⟨b1_0, 0, none⟩)) (.box w0.heap.size 74 E_impl_TokenCount p0), ob (.pointer (some ⟨b2_1, 0, none⟩)) (.box w0.heap.size 76 E_impl_TokenCount (([] : List UInt8), (0 : Int))), ob (.pointer (some ⟨b3_4, 0, none⟩)) (.box w0.heap.size 76 E_impl_TokenCount (([] : List UInt8), (0 : Int)))] (⟨_, true, [], none, true, fun A => .raw (.pointer (some ⟨b1_0, 0, none⟩))⟩ :: ⟨_, true, [], none, true, fun A => .rep eStr A p0.1⟩ :: ⟨_, true, [], none, true, fun A => .raw (.pointer (some ⟨b3_4, 0, none⟩))⟩ :: ⟨_, true, [2], some (.box w0.heap.size 76 E_impl_TokenCount (p0.1, (0 : Int))), false, fun A => .any⟩ :: []) (by kernel_rfl) (by kernel_rfl) (Wf.mk' (by kernel_rfl) (UAll.cons ust_raw (UAll.cons ust_rep (UAll.cons ust_raw (UAll.cons ust_any (UAll.nil))))) (by kernel_rfl) (by kernel_rfl)) hO hA ?_ ?_
 ·exact
   OblsR.p (fun A' R' w' ho hd => of_fieldAddr_raw ((ho.old 1 rfl).trans h1) ff_74_0 Try.sizeOf9 (by decide) rfl) <|
   OblsR.p (fun A' R' w' ho hd => by have a0 : R' 4 = (.pointer (some ⟨b1_0, 0, none⟩)) := hd.g 0 rfl; exact (of_load_box (ho.rd 0 _ rfl rfl) a0 fl_impl_TokenCount_0 rfl Try.isAgg9 Try.sizeOf9)) <|
   OblsR.p (fun A' R' w' ho hd => of_fieldAddr_raw ((ho.old 3 rfl).trans h3) ff_76_0 Try.sizeOf9 (by decide) rfl) <|
   OblsR.cons (OblR.took 2 _ _ rfl rfl rfl rfl rfl fun A' R' w' ho hd u hok hav hin hop hds => by have a0 : R' 6 = (.pointer (some ⟨b3_4, 0, none⟩)) := hd.g 0 rfl; have a1 : Rep eStr A' w' (R' 5) p0.1 := hd.g 1 rfl; exact took_store a1 a0 (hin _ rfl) hok hav fs_impl_TokenCount_0 Try.sizeOf9 rfl) <|
   OblsR.nil
 intro done ρ σ A R w hdn hI
 replace h1 : R 1 = (.pointer (some ⟨b1_0, 0, none⟩)) := (hI.reg rfl).trans h1
 replace h2 : R 2 = (.pointer (some ⟨b2_1, 0, none⟩)) := (hI.reg rfl).trans h2
 replace h3 : R 3 = (.pointer (some ⟨b3_4, 0, none⟩)) := (hI.reg rfl).trans h3
 have z6 := hI.inivR 0 rfl
 have z7 := hI.inivR 1 rfl
 have z8 := hI.inivR 2 rfl
 have z9 := (hI.opnR hdn 6 3 rfl rfl rfl rfl rfl).trans z8
 replace hAA := hI.low' hAA hA0 (hO.ge (⟨rfl, ⟨rfl, ⟨rfl, trivial⟩⟩⟩))
 replace hF : Fr w0 w := hF.tr hI.ch (hO.ge (⟨rfl, ⟨rfl, ⟨rfl, trivial⟩⟩⟩))
 replace hO : IniOK [ob (.pointer (some ⟨b1_0, 0, none⟩)) (.box w0.heap.size 74 E_impl_TokenCount p0), ob (.pointer (some ⟨b2_1, 0, none⟩)) (.box w0.heap.size 76 E_impl_TokenCount (([] : List UInt8), (0 : Int))), ob (.pointer (some ⟨b3_4, 0, none⟩)) (.box w0.heap.size 76 E_impl_TokenCount (p0.1, (0 : Int)))] A w := hI.left hdn [(0, ob (.pointer (some ⟨b1_0, 0, none⟩)) (.box w0.heap.size 74 E_impl_TokenCount p0)), (1, ob (.pointer (some ⟨b2_1, 0, none⟩)) (.box w0.heap.size 76 E_impl_TokenCount (([] : List UInt8), (0 : Int)))), (6, ob (.pointer (some ⟨b3_4, 0, none⟩)) (.box w0.heap.size 76 E_impl_TokenCount (p0.1, (0 : Int))))] ⟨rfl, rfl, z6, rfl, rfl, ⟨rfl, rfl, z7, rfl, rfl, ⟨rfl, rfl, z9, rfl, rfl, trivial⟩⟩⟩
 replace hA := hI.avok
 clear hI
 refine HT.seq ?_
 refine HT.textR [ob (.pointer (some ⟨b1_0, 0, none⟩)) (.box w0.heap.size 74 E_impl_TokenCount p0), ob (.pointer (some ⟨b2_1, 0, none⟩)) (.box w0.heap.size 76 E_impl_TokenCount (([] : List UInt8), (0 : Int))), ob (.pointer (some ⟨b3_4, 0, none⟩)) (.box w0.heap.size 76 E_impl_TokenCount (p0.1, (0 : Int)))] (⟨_, true, [], none, true, fun A => .raw (.pointer (some ⟨b1_0, 1, none⟩))⟩ :: ⟨_, true, [], none, true, fun A => .raw (.int .i64 p0.2)⟩ :: ⟨_, true, [], none, true, fun A => .raw (.pointer (some ⟨b3_4, 1, none⟩))⟩ :: ⟨_, true, [2], some (.box w0.heap.size 76 E_impl_TokenCount (p0.1, p0.2)), false, fun A => .any⟩ :: []) (by kernel_rfl) (by kernel_rfl) (Wf.mk' (by kernel_rfl) (UAll.cons ust_raw (UAll.cons ust_raw (UAll.cons ust_raw (UAll.cons ust_any (UAll.nil))))) (by kernel_rfl) (by kernel_rfl)) hO hA ?_ ?_
 ·exact
   OblsR.p (fun A' R' w' ho hd => of_fieldAddr_raw ((ho.old 1 rfl).trans h1) ff_74_1 Try.sizeOf3 (by decide) rfl) <|
   OblsR.p (fun A' R' w' ho hd => by have a0 : R' 7 = (.pointer (some ⟨b1_0, 1, none⟩)) := hd.g 0 rfl; exact OpF.int (of_load_box (ho.rd 0 _ rfl rfl) a0 fl_impl_TokenCount_1 rfl Try.isAgg3 Try.sizeOf3)) <|
   OblsR.p (fun A' R' w' ho hd => of_fieldAddr_raw ((ho.old 3 rfl).trans h3) ff_76_1 Try.sizeOf3 (by decide) rfl) <|
   OblsR.cons (OblR.took 2 _ _ rfl rfl rfl rfl rfl fun A' R' w' ho hd u hok hav hin hop hds => by have a0 : R' 9 = (.pointer (some ⟨b3_4, 1, none⟩)) := hd.g 0 rfl; have a1 : R' 8 = .int .i64 p0.2 := hd.g 1 rfl; exact took_store (rep_int.eq a1) a0 (hin _ rfl) hok hav fs_impl_TokenCount_1 Try.sizeOf3 rfl) <|
   OblsR.nil
 intro done ρ σ A R w hdn hI
 replace h2 : R 2 = (.pointer (some ⟨b2_1, 0, none⟩)) := (hI.reg rfl).trans h2
 replace h3 : R 3 = (.pointer (some ⟨b3_4, 0, none⟩)) := (hI.reg rfl).trans h3
 have z10 := hI.inivR 0 rfl
 have z11 := hI.inivR 1 rfl
 have z12 := hI.inivR 2 rfl
 have z13 := (hI.opnR hdn 6 3 rfl rfl rfl rfl rfl).trans z12
 replace hAA := hI.low' hAA hA0 (hO.ge (⟨rfl, ⟨rfl, ⟨rfl, trivial⟩⟩⟩))
 replace hF : Fr w0 w := hF.tr hI.ch (hO.ge (⟨rfl, ⟨rfl, ⟨rfl, trivial⟩⟩⟩))
 replace hO : IniOK [ob (.pointer (some ⟨b2_1, 0, none⟩)) (.box w0.heap.size 76 E_impl_TokenCount (([] : List UInt8), (0 : Int))), ob (.pointer (some ⟨b3_4, 0, none⟩)) (.box w0.heap.size 76 E_impl_TokenCount (p0.1, p0.2))] A w := hI.left hdn [(1, ob (.pointer (some ⟨b2_1, 0, none⟩)) (.box w0.heap.size 76 E_impl_TokenCount (([] : List UInt8), (0 : Int)))), (6, ob (.pointer (some ⟨b3_4, 0, none⟩)) (.box w0.heap.size 76 E_impl_TokenCount (p0.1, p0.2)))] ⟨rfl, rfl, z11, rfl, rfl, ⟨rfl, rfl, z13, rfl, rfl, trivial⟩⟩
 replace hA := hI.avok
 clear hI
 refine HT.seq ?_
 refine HT.textR [ob (.pointer (some ⟨b2_1, 0, none⟩)) (.box w0.heap.size 76 E_impl_TokenCount (([] : List UInt8), (0 : Int))), ob (.pointer (some ⟨b3_4, 0, none⟩)) (.box w0.heap.size 76 E_impl_TokenCount (p0.1, p0.2))] (⟨_, true, [], none, true, fun A => .rep E_impl_TokenCount A (p0.1, p0.2)⟩ :: ⟨_, true, [0], some (.box w0.heap.size 76 E_impl_TokenCount (p0.1, p0.2)), false, fun A => .any⟩ :: []) (by kernel_rfl) (by kernel_rfl) (Wf.mk' (by kernel_rfl) (UAll.cons ust_rep (UAll.cons ust_any (UAll.nil))) (by kernel_rfl) (by kernel_rfl)) hO hA ?_ ?_
 ·exact
   OblsR.p (fun A' R' w' ho hd => (of_load_box (ho.rd 1 _ rfl rfl) ((ho.old 3 rfl).trans h3) (Fld.id _) rfl Try.isAgg76 Try.sizeOf76)) <|
   OblsR.cons (OblR.took 0 _ _ rfl rfl rfl rfl rfl fun A' R' w' ho hd u hok hav hin hop hds => by have a0 : R' 2 = (.pointer (some ⟨b2_1, 0, none⟩)) := (ho.old 2 rfl).trans h2; have a1 : Rep E_impl_TokenCount A' w' (R' 10) (p0.1, p0.2) := hd.g 0 rfl; exact took_store a1 a0 (hin _ rfl) hok hav (FldS.id _) Try.sizeOf76 rfl) <|
   OblsR.nil
 intro done ρ σ A R w hdn hI
 replace h2 : R 2 = (.pointer (some ⟨b2_1, 0, none⟩)) := (hI.reg rfl).trans h2
 have z14 := hI.inivR 0 rfl
 have z15 := (hI.opnR hdn 3 1 rfl rfl rfl rfl rfl).trans z14
 have z16 := hI.inivR 1 rfl
 replace hAA := hI.low' hAA hA0 (hO.ge (⟨rfl, ⟨rfl, trivial⟩⟩))
 replace hF : Fr w0 w := hF.tr hI.ch (hO.ge (⟨rfl, ⟨rfl, trivial⟩⟩))
 replace hO : IniOK [ob (.pointer (some ⟨b2_1, 0, none⟩)) (.box w0.heap.size 76 E_impl_TokenCount (p0.1, p0.2))] A w := hI.left hdn [(3, ob (.pointer (some ⟨b2_1, 0, none⟩)) (.box w0.heap.size 76 E_impl_TokenCount (p0.1, p0.2)))] ⟨rfl, rfl, z15, rfl, rfl, trivial⟩
 replace hA := hI.avok
 clear hI
 refine HT.ret ?_
 obtain rfl := Option.some.inj hr
 obtain ⟨v_2, e_2, p_2⟩ := res_cell (hO.ok 0 _ rfl).1 h2 Try.isAgg76 Try.sizeOf76 hAA
 exact ⟨.inr rfl, [v_2], ⟨e_2, trivial⟩, p_2, hF⟩
def M_laws_toTokenCountS_L0 (fu : Nat) (p0 : List T_impl_TokenCount) : Nat → Int → (List T_impl_TokenCount) → Option (List T_impl_TokenCount)
 | 0, _, _ => none
 | k + 1, y6, y7 =>
  bif (decide (y6 < (p0.length : Int))) then (
   ck (inR y6 p0.length) <|
   cl true (M_laws_toTokenCount fu (gtD p0 y6)) fun x10 =>
   ck (inR y6 y7.length) <|
   ck (i64B (y6 + (1 : Int))) <|
   M_laws_toTokenCountS_L0 fu p0 k (y6 + (1 : Int)) (y7.set y6.toNat x10)
  ) else (
   some y7
  )
def M_laws_toTokenCountS (fu : Nat) (p0 : List T_impl_TokenCount) : Option (List T_impl_TokenCount) :=
 ck (mkOK (p0.length : Int)) <|
 cl true (M_laws_toTokenCountS_L0 fu p0 fu (0 : Int) (List.replicate (p0.length : Int).toNat (([] : List UInt8), (0 : Int)))) fun s5 =>
 some s5
theorem M_laws_toTokenCountS_ok {fu : Nat} {A0 : Av} {p0 : List T_impl_TokenCount} {r : List T_impl_TokenCount} (hr : M_laws_toTokenCountS fu p0 = some r) {w : World} {v0 : Value} (hA : AvOK A0 w) (h0 : Rep (eSl E_impl_TokenCount) A0 w v0 p0) :
  Calls Try.prog 16 #[v0] w fun e w' => ∃ v, e = .returned v ∧ ((Res.vec w.heap.size 76 E_impl_TokenCount r).ok (addA A0 v) v w' ∧ Fr w w') := by
 unfold M_laws_toTokenCountS at hr
 obtain ⟨w0, hw0⟩ : ∃ w0, w0 = w := ⟨_, rfl⟩
 have hF : Fr w0 w := hw0 ▸ Fr.refl _
 have hA0 : ∀ b o, A0 b o → b < w0.heap.size := fun b o h => hw0 ▸ hA b o h
 have hA00 : AvOK A0 w0 := hA0
 rw [show w.heap.size = w0.heap.size from hw0 ▸ rfl]
 rw [show Fr w = Fr w0 from hw0 ▸ rfl]
 clear hw0
 obtain ⟨A, hAe⟩ : ∃ A, A = A0 := ⟨_, rfl⟩
 have hAA : ∀ b o, A0 b o → A b o := fun b o h => hAe ▸ h
 replace hA : AvOK A w := hAe ▸ hA
 have hO : IniOK [] A w := IniOK.nil
 refine calls_of_HT2 [.tmp 2] Try.func16 Try.ntmps16 (by decide) rfl rfl (Nat.le_of_ble_eq_true rfl) ?_
 intro R hR
 have f_v0 : Rep (eSl E_impl_TokenCount) A w v0 p0 := hAe ▸ h0
 replace h0 : R 0 = v0 := hR 0 _ rfl
 clear hR hAe
 refine HT.seq ?_
 refine HT.text (l := ⟨_, true, .any⟩ :: []) (tl := []) (by kernel_rfl) (by kernel_rfl) (by kernel_rfl) ?_ ?_
 ·exact
   Obls.p (fun R' w' hw hs hd => of_assign trivial) <|
   Obls.nil
 intro R w hw hs hF'
 replace h0 := (hs 0 rfl).trans h0
 replace f_v0 := f_v0.fr hw
 replace hO := hO.fr hw
 replace hA := hA.fr hw.size
 replace hF := hF.trans hw
 clear hs hF' hw
 refine seqR_nil ?_
 refine HT.seq ?_
 obtain ⟨e1, hr⟩ := ck_some hr
 refine HT.textR [] (⟨_, true, [], none, true, fun A => .raw v0⟩ :: ⟨_, true, [], none, true, fun A => .raw (.int .i64 (p0.length : Int))⟩ :: ⟨_, true, [], some (.vec w0.heap.size 76 E_impl_TokenCount (List.replicate (p0.length : Int).toNat (([] : List UInt8), (0 : Int)))), true, fun A => .any⟩ :: ⟨_, true, [2], some (.vec w0.heap.size 76 E_impl_TokenCount (List.replicate (p0.length : Int).toNat (([] : List UInt8), (0 : Int)))), true, fun A => .any⟩ :: []) (by kernel_rfl) (by kernel_rfl) (Wf.mk' (by kernel_rfl) (UAll.cons ust_raw (UAll.cons ust_raw (UAll.cons ust_any (UAll.cons ust_any (UAll.nil))))) (by kernel_rfl) (by kernel_rfl)) hO hA ?_ ?_
 ·exact
   OblsR.p (fun A' R' w' ho hd => of_move ((ho.old 0 rfl).trans h0)) <|
   OblsR.p (fun A' R' w' ho hd => by have a0 : R' 5 = v0 := hd.g 0 rfl; have ra0 := (f_v0.stp ho.stp).eq a0; exact of_len_sl (aT := #[]) ra0 Try.underlying22) <|
   OblsR.cons (OblR.made _ rfl rfl rfl rfl fun A' R' w' ho hd => by have a0 : R' 6 = .int .i64 (p0.length : Int) := hd.g 0 rfl; have a1 : R' 6 = .int .i64 (p0.length : Int) := hd.g 0 rfl; exact made_make a0 a1 e1 Try.underlying27 el_76 Try.zeroValue76 (fun A w => rep_pr (rep1_str rfl (by decide)) rep1_int) (Nat.le_trans hF.size ho.ch.size)) <|
   OblsR.cons (OblR.took 2 _ _ rfl rfl rfl rfl rfl fun A' R' w' ho hd u hok hav hin hop hds => by exact took_assign (hop _ _ rfl rfl rfl rfl).symm hok hav) <|
   OblsR.nil
 intro done ρ σ A R w hdn hI
 replace h0 : R 0 = v0 := (hI.reg rfl).trans h0
 obtain ⟨u2, e_u2⟩ : ∃ u, ρ 3 = u := ⟨_, rfl⟩
 have h3 : R 3 = u2 := (hI.opvR hdn 3 3 rfl rfl rfl rfl rfl).symm.trans e_u2
 replace f_v0 := f_v0.stp hI.stp
 replace hAA := hI.low' hAA hA0 (hO.ge (trivial))
 replace hF : Fr w0 w := hF.tr hI.ch (hO.ge (trivial))
 replace hO : IniOK [ob u2 (.vec w0.heap.size 76 E_impl_TokenCount (List.replicate (p0.length : Int).toNat (([] : List UInt8), (0 : Int))))] A w := hI.left hdn [(3, ob u2 (.vec w0.heap.size 76 E_impl_TokenCount (List.replicate (p0.length : Int).toNat (([] : List UInt8), (0 : Int)))))] ⟨rfl, rfl, e_u2, rfl, rfl, trivial⟩
 replace hA := hI.avok
 clear hI
 refine HT.seq ?_
 refine HT.seq ?_
 refine HT.text (l := ⟨_, true, .raw (.int .i64 (0 : Int))⟩ :: []) (tl := []) (by kernel_rfl) (by kernel_rfl) (by kernel_rfl) ?_ ?_
 ·exact
   Obls.p (fun R' w' hw hs hd => of_assign rfl) <|
   Obls.nil
 intro R w hw hs hF'
 replace h0 := (hs 0 rfl).trans h0
 replace h3 := (hs 3 rfl).trans h3
 have h4 : R 4 = .int .i64 (0 : Int) := hF' 0 _ _ rfl rfl rfl
 replace f_v0 := f_v0.fr hw
 replace hO := hO.fr hw
 replace hA := hA.fr hw.size
 replace hF := hF.trans hw
 clear hs hF' hw
 refine seqR_nil ?_
 obtain ⟨rl3, q4, hr⟩ := cl_some hr
 replace q4 := q4 rfl
 refine HT.cut0 (fun R w => ∃ A : Av, ∃ (s5 : (List T_impl_TokenCount)), rl3 = s5 ∧ AvOK A w ∧ Fr w0 w ∧ (∀ b o, A0 b o → A b o) ∧ IniOK [ob u2 (.vec w0.heap.size 76 E_impl_TokenCount s5)] A w ∧ R 3 = u2) ?_ ?_
 ·refine HT.block ?_
  refine HT.loop (fun k R w => ∃ A : Av, ∃ (y6 : Int) (y7 : List T_impl_TokenCount), M_laws_toTokenCountS_L0 fu p0 k y6 y7 = some rl3 ∧ AvOK A w ∧ Fr w0 w ∧ (∀ b o, A0 b o → A b o) ∧ IniOK [ob u2 (.vec w0.heap.size 76 E_impl_TokenCount y7)] A w ∧ R 0 = v0 ∧ R 3 = u2 ∧ R 4 = .int .i64 y6 ∧ Rep (eSl E_impl_TokenCount) A w v0 p0) fu ⟨_, _, _, q4, hA, hF, hAA, hO, h0, h3, h4, f_v0⟩ ?_
  have hr0 := hr; clear hr q4
  rintro k R w ⟨A, y6, y7, hr, hA, hF, hAA, hO, h0, h3, h4, f_v0⟩
  rcases k with _ | k
  ·cases (show none = some _ from hr)
  rw [M_laws_toTokenCountS_L0] at hr
  refine HT.seq ?_
  refine HT.seq ?_
  refine HT.text (l := ⟨_, true, .raw (.int .i64 y6)⟩ :: ⟨_, true, .raw v0⟩ :: ⟨_, true, .raw (.int .i64 (p0.length : Int))⟩ :: ⟨_, true, .raw (.bool (decide (y6 < (p0.length : Int))))⟩ :: []) (tl := []) (by kernel_rfl) (by kernel_rfl) (by kernel_rfl) ?_ ?_
  ·exact
    Obls.p (fun R' w' hw hs hd => of_move ((hs 4 rfl).trans h4)) <|
    Obls.p (fun R' w' hw hs hd => of_move ((hs 0 rfl).trans h0)) <|
    Obls.p (fun R' w' hw hs hd => by have a0 : R' 9 = v0 := hd.g 0 rfl; have ra0 := (f_v0.fr hw).eq a0; exact of_len_sl (aT := #[]) ra0 Try.underlying22) <|
    Obls.p (fun R' w' hw hs hd => by have a0 : R' 8 = .int .i64 y6 := hd.g 0 rfl; have a1 : R' 10 = .int .i64 (p0.length : Int) := hd.g 1 rfl; exact of_lss a0 a1) <|
    Obls.nil
  intro R w hw hs hF'
  replace h0 := (hs 0 rfl).trans h0
  replace h3 := (hs 3 rfl).trans h3
  replace h4 := (hs 4 rfl).trans h4
  have h11 : R 11 = .bool (decide (y6 < (p0.length : Int))) := hF' 3 _ _ rfl rfl rfl
  replace f_v0 := f_v0.fr hw
  replace hO := hO.fr hw
  replace hA := hA.fr hw.size
  replace hF := hF.trans hw
  clear hs hF' hw
  refine seqR_nil ?_
  refine HT.cond (decide (y6 < (p0.length : Int))) h11 (fun c8 => ?_) (fun c8 => ?_)
  ·have hr := cnd_t c8 hr
   refine HT.skip ?_
   refine HT.seq ?_
   refine HT.block ?_
   obtain ⟨e9, hr⟩ := ck_some hr
   obtain ⟨x10, q11, hr⟩ := cl_some hr
   obtain ⟨e12, hr⟩ := ck_some hr
   refine HT.textR [ob u2 (.vec w0.heap.size 76 E_impl_TokenCount y7)] (⟨_, true, [], none, true, fun A => .raw u2⟩ :: ⟨_, true, [], none, true, fun A => .raw (.int .i64 y6)⟩ :: ⟨_, true, [], none, true, fun A => .raw v0⟩ :: ⟨_, true, [], none, true, fun A => .raw (.int .i64 y6)⟩ :: ⟨_, true, [], none, true, fun A => .qtr E_impl_TokenCount A (gtD p0 y6)⟩ :: ⟨_, true, [], none, true, fun A => .rep E_impl_TokenCount A (gtD p0 y6)⟩ :: ⟨_, true, [], none, true, fun A => .rep E_impl_TokenCount A x10⟩ :: ⟨_, true, [], none, true, fun A => .raw (vptr u2 (y6.toNat * 2))⟩ :: ⟨_, true, [0], some (.vec w0.heap.size 76 E_impl_TokenCount (y7.set y6.toNat x10)), false, fun A => .any⟩ :: []) (by kernel_rfl) (by kernel_rfl) (Wf.mk' (by kernel_rfl) (UAll.cons ust_raw (UAll.cons ust_raw (UAll.cons ust_raw (UAll.cons ust_raw (UAll.cons ust_qtr (UAll.cons ust_rep (UAll.cons ust_rep (UAll.cons ust_raw (UAll.cons ust_any (UAll.nil)))))))))) (by kernel_rfl) (by kernel_rfl)) hO hA ?_ ?_
   ·exact
     OblsR.p (fun A' R' w' ho hd => of_move ((ho.old 3 rfl).trans h3)) <|
     OblsR.p (fun A' R' w' ho hd => of_move ((ho.old 4 rfl).trans h4)) <|
     OblsR.p (fun A' R' w' ho hd => of_move ((ho.old 0 rfl).trans h0)) <|
     OblsR.p (fun A' R' w' ho hd => of_move ((ho.old 4 rfl).trans h4)) <|
     OblsR.p (fun A' R' w' ho hd => by have a0 : R' 16 = v0 := hd.g 0 rfl; have a1 : R' 17 = .int .i64 y6 := hd.g 1 rfl; have ra0 := (f_v0.stp ho.stp).eq a0; exact of_indexAddr ra0 a1 Try.underlying22 Try.sizeOf74 e9) <|
     OblsR.p (fun A' R' w' ho hd => by have a0 : QRep E_impl_TokenCount A' w' (R' 18) (gtD p0 y6) := hd.g 0 rfl; exact (of_load a0.ptr Try.isAgg74 Try.sizeOf74)) <|
     OblsR.p (fun A' R' w' ho hd => by have a0 : Rep E_impl_TokenCount A' w' (R' 19) (gtD p0 y6) := hd.g 0 rfl; exact of_call Try.call60 (M_laws_toTokenCount_ok (q11 rfl) ho.av a0)) <|
     OblsR.p (fun A' R' w' ho hd => by have a0 : R' 14 = u2 := hd.g 0 rfl; have a1 : R' 15 = .int .i64 y6 := hd.g 1 rfl; exact of_indexAddr_vec (hO.ok 0 _ rfl).1 a0 a1 Try.underlying27 Try.sizeOf76 e12 rfl) <|
     OblsR.cons (OblR.took 0 _ _ rfl rfl rfl rfl rfl fun A' R' w' ho hd u hok hav hin hop hds => by have a0 : R' 21 = (vptr u2 (y6.toNat * 2)) := hd.g 0 rfl; have a1 : Rep E_impl_TokenCount A' w' (R' 20) x10 := hd.g 1 rfl; obtain rfl := hin _ rfl; exact took_vstore a1 hok hav a0 e12 rfl (FldS.id _) Try.sizeOf76 rfl) <|
     OblsR.nil
   intro done ρ σ A R w hdn hI
   replace h0 : R 0 = v0 := (hI.reg rfl).trans h0
   replace h3 : R 3 = u2 := (hI.reg rfl).trans h3
   replace h4 : R 4 = .int .i64 y6 := (hI.reg rfl).trans h4
   have z13 := hI.inivR 0 rfl
   have z14 := (hI.opnR hdn 9 8 rfl rfl rfl rfl rfl).trans z13
   replace f_v0 := f_v0.stp hI.stp
   replace hAA := hI.low' hAA hA0 (hO.ge (⟨rfl, trivial⟩))
   replace hF : Fr w0 w := hF.tr hI.ch (hO.ge (⟨rfl, trivial⟩))
   replace hO : IniOK [ob u2 (.vec w0.heap.size 76 E_impl_TokenCount (y7.set y6.toNat x10))] A w := hI.left hdn [(9, ob u2 (.vec w0.heap.size 76 E_impl_TokenCount (y7.set y6.toNat x10)))] ⟨rfl, rfl, z14, rfl, rfl, trivial⟩
   replace hA := hI.avok
   clear hI
   obtain ⟨e15, hr⟩ := ck_some hr
   refine HT.text (l := ⟨_, true, .raw (.int .i64 y6)⟩ :: ⟨_, true, .raw (.int .i64 (y6 + (1 : Int)))⟩ :: ⟨_, true, .raw (.int .i64 (y6 + (1 : Int)))⟩ :: []) (tl := []) (by kernel_rfl) (by kernel_rfl) (by kernel_rfl) ?_ ?_
   ·exact
     Obls.p (fun R' w' hw hs hd => of_move ((hs 4 rfl).trans h4)) <|
     Obls.p (fun R' w' hw hs hd => by have a0 : R' 12 = .int .i64 y6 := hd.g 0 rfl; exact of_add a0 rfl e15) <|
     Obls.p (fun R' w' hw hs hd => by have a0 : R' 13 = .int .i64 (y6 + (1 : Int)) := hd.g 0 rfl; exact of_assign a0) <|
     Obls.nil
   intro R w hw hs hF'
   replace h0 := (hs 0 rfl).trans h0
   replace h3 := (hs 3 rfl).trans h3
   have h4 : R 4 = .int .i64 (y6 + (1 : Int)) := hF' 2 _ _ rfl rfl rfl
   replace f_v0 := f_v0.fr hw
   replace hO := hO.fr hw
   replace hA := hA.fr hw.size
   replace hF := hF.trans hw
   clear hs hF' hw
   refine seqR_nil ?_
   exact Exists.intro k (And.intro (Nat.lt_succ_self k) ⟨_, _, _, hr, hA, hF, hAA, hO, h0, h3, h4, f_v0⟩)
  ·have hr := cnd_f c8 hr
   refine HT.exit ?_
   obtain rfl := Option.some.inj hr
   exact Exists.intro _ ⟨_, rfl, hA, hF, hAA, hO, h3⟩
 rintro R w ⟨A, s5, es, hA, hF, hAA, hO, h3⟩
 obtain rfl := es.symm
 refine HT.seq ?_
 refine HT.text (l := ⟨_, true, .raw u2⟩ :: ⟨_, true, .raw u2⟩ :: []) (tl := []) (by kernel_rfl) (by kernel_rfl) (by kernel_rfl) ?_ ?_
 ·exact
   Obls.p (fun R' w' hw hs hd => of_move ((hs 3 rfl).trans h3)) <|
   Obls.p (fun R' w' hw hs hd => by have a0 : R' 22 = u2 := hd.g 0 rfl; exact of_assign a0) <|
   Obls.nil
 intro R w hw hs hF'
 have h2 : R 2 = u2 := hF' 1 _ _ rfl rfl rfl
 replace hO := hO.fr hw
 replace hA := hA.fr hw.size
 replace hF := hF.trans hw
 clear hs hF' hw
 refine seqR_nil ?_
 refine HT.ret ?_
 obtain rfl := Option.some.inj hr
 exact ⟨.inr rfl, [R 2], ⟨rfl, trivial⟩, (own_post (hO.ok 0 _ rfl) hAA h2), hF⟩
theorem M_laws_toTokenCountS_okR {fu : Nat} {A0 : Av} {p0 : List T_impl_TokenCount} {r : List T_impl_TokenCount} (hr : M_laws_toTokenCountS fu p0 = some r) {w : World} {v0 : Value} (hA : AvOK A0 w) (h0 : Rep (eSl E_impl_TokenCount) A0 w v0 p0) :
  Calls Try.prog 16 #[v0] w fun e w' => ∃ v, e = .returned v ∧ (Rep (eSl E_impl_TokenCount) A0 w' v r ∧ Fr w w') := by
 refine Calls.mono (M_laws_toTokenCountS_ok hr hA h0) ?_
 rintro e w' ⟨v, he, hv, hf⟩
 exact ⟨v, he, vec_rep hv (fun b o h => .inl h) hA, hf⟩
def M_spec_IsTokenTable_L0 (fu : Nat) (p0 : List T_impl_TokenCount) : Nat → Int → Option (Ex Bool Unit)
 | 0, _ => none
 | k + 1, y4 =>
  bif (decide (y4 < (p0.length : Int))) then (
   ck (inR y4 p0.length) <|
   ck (!((true && ((decide (((gtD p0 y4).2) < (1 : Int))) == false)) && ((decide ((0 : Int) < y4)) == true)) || i64B (y4 - (1 : Int))) <|
   ck (!((true && ((decide (((gtD p0 y4).2) < (1 : Int))) == false)) && ((decide ((0 : Int) < y4)) == true)) || inR (y4 - (1 : Int)) p0.length) <|
   ck (!((true && ((decide (((gtD p0 y4).2) < (1 : Int))) == false)) && ((decide ((0 : Int) < y4)) == true)) || inR y4 p0.length) <|
   bd ((decide ((0 : Int) < y4)) && (!(bLt ((gtD p0 (y4 - (1 : Int))).1) ((gtD p0 y4).1)))) fun x10 =>
   bd ((decide (((gtD p0 y4).2) < (1 : Int))) || x10) fun x12 =>
   bif x12 then (
    some (Ex.ret false)
   ) else (
    ck (i64B (y4 + (1 : Int))) <|
    M_spec_IsTokenTable_L0 fu p0 k (y4 + (1 : Int))
   )
  ) else (
   some (Ex.go ())
  )
def M_spec_IsTokenTable (fu : Nat) (p0 : List T_impl_TokenCount) : Option Bool :=
 cl true (M_spec_IsTokenTable_L0 fu p0 fu (0 : Int)) fun rl1 =>
 exM rl1 (fun r => some r) fun s3 =>
 some true
theorem M_spec_IsTokenTable_ok {fu : Nat} {A : Av} {p0 : List T_impl_TokenCount} {r : Bool} (hr : M_spec_IsTokenTable fu p0 = some r) {w : World} {v0 : Value} (hA : AvOK A w) (h0 : Rep (eSl E_impl_TokenCount) A w v0 p0) :
  Calls Try.prog 80 #[v0] w fun e w' => ∃ v, e = .returned v ∧ (v = .bool r ∧ Fr w w') := by
 unfold M_spec_IsTokenTable at hr
 obtain ⟨w0, hw0⟩ : ∃ w0, w0 = w := ⟨_, rfl⟩
 have hF : Fr w0 w := hw0 ▸ Fr.refl _
 rw [show Fr w = Fr w0 from hw0 ▸ rfl]
 clear hw0
 refine calls_of_HT2 [.tmp 2] Try.func80 Try.ntmps80 (by decide) rfl rfl (Nat.le_of_ble_eq_true rfl) ?_
 intro R hR
 have f_v0 := h0
 replace h0 : R 0 = v0 := hR 0 _ rfl
 clear hR
 refine HT.seq ?_
 refine HT.text (l := ⟨_, true, .raw (.bool false)⟩ :: []) (tl := []) (by kernel_rfl) (by kernel_rfl) (by kernel_rfl) ?_ ?_
 ·exact
   Obls.p (fun R' w' hw hs hd => of_assign rfl) <|
   Obls.nil
 intro R w hw hs hF'
 replace h0 := (hs 0 rfl).trans h0
 replace f_v0 := f_v0.fr hw
 replace hA := hA.fr hw.size
 replace hF := hF.trans hw
 clear hs hF' hw
 refine seqR_nil ?_
 refine HT.seq ?_
 refine HT.seq ?_
 refine HT.text (l := ⟨_, true, .raw (.int .i64 (0 : Int))⟩ :: []) (tl := []) (by kernel_rfl) (by kernel_rfl) (by kernel_rfl) ?_ ?_
 ·exact
   Obls.p (fun R' w' hw hs hd => of_assign rfl) <|
   Obls.nil
 intro R w hw hs hF'
 replace h0 := (hs 0 rfl).trans h0
 have h3 : R 3 = .int .i64 (0 : Int) := hF' 0 _ _ rfl rfl rfl
 replace f_v0 := f_v0.fr hw
 replace hA := hA.fr hw.size
 replace hF := hF.trans hw
 clear hs hF' hw
 refine seqR_nil ?_
 obtain ⟨rl1, q2, hr⟩ := cl_some hr
 replace q2 := q2 rfl
 refine HT.cut0 (fun R w => ∃ (s3 : Unit), rl1 = Ex.go s3 ∧ AvOK A w ∧ Fr w0 w) ?_ ?_
 ·refine HT.block ?_
  refine HT.loop (fun k R w => ∃ (y4 : Int), M_spec_IsTokenTable_L0 fu p0 k y4 = some rl1 ∧ AvOK A w ∧ Fr w0 w ∧ R 0 = v0 ∧ R 3 = .int .i64 y4 ∧ Rep (eSl E_impl_TokenCount) A w v0 p0) fu ⟨_, q2, hA, hF, h0, h3, f_v0⟩ ?_
  have hr0 := hr; clear hr q2
  rintro k R w ⟨y4, hr, hA, hF, h0, h3, f_v0⟩
  rcases k with _ | k
  ·cases (show none = some _ from hr)
  rw [M_spec_IsTokenTable_L0] at hr
  refine HT.seq ?_
  refine HT.seq ?_
  refine HT.text (l := ⟨_, true, .raw (.int .i64 y4)⟩ :: ⟨_, true, .raw v0⟩ :: ⟨_, true, .raw (.int .i64 (p0.length : Int))⟩ :: ⟨_, true, .raw (.bool (decide (y4 < (p0.length : Int))))⟩ :: []) (tl := []) (by kernel_rfl) (by kernel_rfl) (by kernel_rfl) ?_ ?_
  ·exact
    Obls.p (fun R' w' hw hs hd => of_move ((hs 3 rfl).trans h3)) <|
    Obls.p (fun R' w' hw hs hd => of_move ((hs 0 rfl).trans h0)) <|
    Obls.p (fun R' w' hw hs hd => by have a0 : R' 5 = v0 := hd.g 0 rfl; have ra0 := (f_v0.fr hw).eq a0; exact of_len_sl (aT := #[]) ra0 Try.underlying27) <|
    Obls.p (fun R' w' hw hs hd => by have a0 : R' 4 = .int .i64 y4 := hd.g 0 rfl; have a1 : R' 6 = .int .i64 (p0.length : Int) := hd.g 1 rfl; exact of_lss a0 a1) <|
    Obls.nil
  intro R w hw hs hF'
  replace h0 := (hs 0 rfl).trans h0
  replace h3 := (hs 3 rfl).trans h3
  have h7 : R 7 = .bool (decide (y4 < (p0.length : Int))) := hF' 3 _ _ rfl rfl rfl
  replace f_v0 := f_v0.fr hw
  replace hA := hA.fr hw.size
  replace hF := hF.trans hw
  clear hs hF' hw
  refine seqR_nil ?_
  refine HT.cond (decide (y4 < (p0.length : Int))) h7 (fun c5 => ?_) (fun c5 => ?_)
  ·have hr := cnd_t c5 hr
   refine HT.skip ?_
   refine HT.seq ?_
   refine HT.block ?_
   refine HT.seq ?_
   obtain ⟨e6, hr⟩ := ck_some hr
   obtain ⟨e7, hr⟩ := ck_some hr
   obtain ⟨e8, hr⟩ := ck_some hr
   obtain ⟨e9, hr⟩ := ck_some hr
   obtain ⟨x10, q11, hr⟩ := bd_some hr
   obtain ⟨x12, q13, hr⟩ := bd_some hr
   refine HT.draw (by kernel_rfl) (l := ⟨_, true, .raw v0⟩ :: ⟨_, true, .raw (.int .i64 y4)⟩ :: ⟨_, true, .qtr E_impl_TokenCount A (gtD p0 y4)⟩ :: ⟨_, true, .qtr (eInt .i64) A ((gtD p0 y4).2)⟩ :: ⟨_, true, .raw (.int .i64 ((gtD p0 y4).2))⟩ :: ⟨_, true, .raw (.bool (decide (((gtD p0 y4).2) < (1 : Int))))⟩ :: ⟨_, true, .raw (.bool (decide (((gtD p0 y4).2) < (1 : Int))))⟩ :: ⟨_, (true && ((decide (((gtD p0 y4).2) < (1 : Int))) == false)), .raw (.int .i64 y4)⟩ :: ⟨_, (true && ((decide (((gtD p0 y4).2) < (1 : Int))) == false)), .raw (.bool (decide ((0 : Int) < y4)))⟩ :: ⟨_, (true && ((decide (((gtD p0 y4).2) < (1 : Int))) == false)), .raw (.bool (decide ((0 : Int) < y4)))⟩ :: ⟨_, ((true && ((decide (((gtD p0 y4).2) < (1 : Int))) == false)) && ((decide ((0 : Int) < y4)) == true)), .raw v0⟩ :: ⟨_, ((true && ((decide (((gtD p0 y4).2) < (1 : Int))) == false)) && ((decide ((0 : Int) < y4)) == true)), .raw (.int .i64 y4)⟩ :: ⟨_, ((true && ((decide (((gtD p0 y4).2) < (1 : Int))) == false)) && ((decide ((0 : Int) < y4)) == true)), .raw (.int .i64 (y4 - (1 : Int)))⟩ :: ⟨_, ((true && ((decide (((gtD p0 y4).2) < (1 : Int))) == false)) && ((decide ((0 : Int) < y4)) == true)), .qtr E_impl_TokenCount A (gtD p0 (y4 - (1 : Int)))⟩ :: ⟨_, ((true && ((decide (((gtD p0 y4).2) < (1 : Int))) == false)) && ((decide ((0 : Int) < y4)) == true)), .qtr eStr A ((gtD p0 (y4 - (1 : Int))).1)⟩ :: ⟨_, ((true && ((decide (((gtD p0 y4).2) < (1 : Int))) == false)) && ((decide ((0 : Int) < y4)) == true)), .rep eStr A ((gtD p0 (y4 - (1 : Int))).1)⟩ :: ⟨_, ((true && ((decide (((gtD p0 y4).2) < (1 : Int))) == false)) && ((decide ((0 : Int) < y4)) == true)), .raw v0⟩ :: ⟨_, ((true && ((decide (((gtD p0 y4).2) < (1 : Int))) == false)) && ((decide ((0 : Int) < y4)) == true)), .raw (.int .i64 y4)⟩ :: ⟨_, ((true && ((decide (((gtD p0 y4).2) < (1 : Int))) == false)) && ((decide ((0 : Int) < y4)) == true)), .qtr E_impl_TokenCount A (gtD p0 y4)⟩ :: ⟨_, ((true && ((decide (((gtD p0 y4).2) < (1 : Int))) == false)) && ((decide ((0 : Int) < y4)) == true)), .qtr eStr A ((gtD p0 y4).1)⟩ :: ⟨_, ((true && ((decide (((gtD p0 y4).2) < (1 : Int))) == false)) && ((decide ((0 : Int) < y4)) == true)), .rep eStr A ((gtD p0 y4).1)⟩ :: ⟨_, ((true && ((decide (((gtD p0 y4).2) < (1 : Int))) == false)) && ((decide ((0 : Int) < y4)) == true)), .raw (.bool (!(bLt ((gtD p0 (y4 - (1 : Int))).1) ((gtD p0 y4).1))))⟩ :: ⟨_, (true && ((decide (((gtD p0 y4).2) < (1 : Int))) == false)), .raw (.bool x10)⟩ :: ⟨_, true, .raw (.bool x12)⟩ :: []) (tl := []) (by kernel_rfl) (by kernel_rfl) (by kernel_rfl) (by kernel_rfl) ?_ ?_
   ·exact
     Obls.p (fun R' w' hw hs hd => of_move ((hs 0 rfl).trans h0)) <|
     Obls.p (fun R' w' hw hs hd => of_move ((hs 3 rfl).trans h3)) <|
     Obls.p (fun R' w' hw hs hd => by have a0 : R' 10 = v0 := hd.g 0 rfl; have a1 : R' 11 = .int .i64 y4 := hd.g 1 rfl; have ra0 := (f_v0.fr hw).eq a0; exact of_indexAddr ra0 a1 Try.underlying27 Try.sizeOf76 e6) <|
     Obls.p (fun R' w' hw hs hd => by have a0 : QRep E_impl_TokenCount A w' (R' 12) (gtD p0 y4) := hd.g 0 rfl; exact of_fieldAddr_q a0 ff_76_1 Try.sizeOf3 (by decide) fl_impl_TokenCount_1 rfl) <|
     Obls.p (fun R' w' hw hs hd => by have a0 : QRep (eInt .i64) A w' (R' 13) ((gtD p0 y4).2) := hd.g 0 rfl; exact OpF.int (of_load a0.ptr Try.isAgg3 Try.sizeOf3)) <|
     Obls.p (fun R' w' hw hs hd => by have a0 : R' 14 = .int .i64 ((gtD p0 y4).2) := hd.g 0 rfl; exact of_lss a0 rfl) <|
     Obls.p (fun R' w' hw hs hd => by have a0 : R' 15 = .bool (decide (((gtD p0 y4).2) < (1 : Int))) := hd.g 0 rfl; exact of_move a0) <|
     Obls.cons (Obl.grd 6 false _ _ _ rfl rfl rfl rfl rfl (by kernel_rfl) fun hg R' w' hw hs hd => by have a0 : R' 3 = .int .i64 y4 := (hs 3 rfl).trans h3; exact of_move a0) <|
     Obls.cons (Obl.grd 6 false _ _ _ rfl rfl rfl rfl rfl (by kernel_rfl) fun hg R' w' hw hs hd => by have a0 : R' 17 = .int .i64 y4 := hd 0 _ _ _ rfl rfl rfl rfl hg; exact of_gtr a0 rfl) <|
     Obls.cons (Obl.grd 6 false _ _ _ rfl rfl rfl rfl rfl (by kernel_rfl) fun hg R' w' hw hs hd => by have a0 : R' 18 = .bool (decide ((0 : Int) < y4)) := hd 0 _ _ _ rfl rfl rfl rfl hg; exact of_move a0) <|
     Obls.cons (Obl.grd 9 true _ _ _ rfl rfl rfl rfl rfl (by kernel_rfl) fun hg R' w' hw hs hd => by have a0 : R' 0 = v0 := (hs 0 rfl).trans h0; exact of_move a0) <|
     Obls.cons (Obl.grd 9 true _ _ _ rfl rfl rfl rfl rfl (by kernel_rfl) fun hg R' w' hw hs hd => by have a0 : R' 3 = .int .i64 y4 := (hs 3 rfl).trans h3; exact of_move a0) <|
     Obls.cons (Obl.grd 9 true _ _ _ rfl rfl rfl rfl rfl (by kernel_rfl) fun hg R' w' hw hs hd => by have a0 : R' 21 = .int .i64 y4 := hd 0 _ _ _ rfl rfl rfl rfl hg; exact of_sub a0 rfl (gd e7 hg)) <|
     Obls.cons (Obl.grd 9 true _ _ _ rfl rfl rfl rfl rfl (by kernel_rfl) fun hg R' w' hw hs hd => by have a0 : R' 20 = v0 := hd 0 _ _ _ rfl rfl rfl rfl hg; have a1 : R' 22 = .int .i64 (y4 - (1 : Int)) := hd 1 _ _ _ rfl rfl rfl rfl hg; have ra0 := (f_v0.fr hw).eq a0; exact of_indexAddr ra0 a1 Try.underlying27 Try.sizeOf76 (gd e8 hg)) <|
     Obls.cons (Obl.grd 9 true _ _ _ rfl rfl rfl rfl rfl (by kernel_rfl) fun hg R' w' hw hs hd => by have a0 : QRep E_impl_TokenCount A w' (R' 23) (gtD p0 (y4 - (1 : Int))) := hd 0 _ _ _ rfl rfl rfl rfl hg; exact of_fieldAddr_q a0 ff_76_0 Try.sizeOf9 (by decide) fl_impl_TokenCount_0 rfl) <|
     Obls.cons (Obl.grd 9 true _ _ _ rfl rfl rfl rfl rfl (by kernel_rfl) fun hg R' w' hw hs hd => by have a0 : QRep eStr A w' (R' 24) ((gtD p0 (y4 - (1 : Int))).1) := hd 0 _ _ _ rfl rfl rfl rfl hg; exact (of_load a0.ptr Try.isAgg9 Try.sizeOf9)) <|
     Obls.cons (Obl.grd 9 true _ _ _ rfl rfl rfl rfl rfl (by kernel_rfl) fun hg R' w' hw hs hd => by have a0 : R' 0 = v0 := (hs 0 rfl).trans h0; exact of_move a0) <|
     Obls.cons (Obl.grd 9 true _ _ _ rfl rfl rfl rfl rfl (by kernel_rfl) fun hg R' w' hw hs hd => by have a0 : R' 3 = .int .i64 y4 := (hs 3 rfl).trans h3; exact of_move a0) <|
     Obls.cons (Obl.grd 9 true _ _ _ rfl rfl rfl rfl rfl (by kernel_rfl) fun hg R' w' hw hs hd => by have a0 : R' 26 = v0 := hd 0 _ _ _ rfl rfl rfl rfl hg; have a1 : R' 27 = .int .i64 y4 := hd 1 _ _ _ rfl rfl rfl rfl hg; have ra0 := (f_v0.fr hw).eq a0; exact of_indexAddr ra0 a1 Try.underlying27 Try.sizeOf76 (gd e9 hg)) <|
     Obls.cons (Obl.grd 9 true _ _ _ rfl rfl rfl rfl rfl (by kernel_rfl) fun hg R' w' hw hs hd => by have a0 : QRep E_impl_TokenCount A w' (R' 28) (gtD p0 y4) := hd 0 _ _ _ rfl rfl rfl rfl hg; exact of_fieldAddr_q a0 ff_76_0 Try.sizeOf9 (by decide) fl_impl_TokenCount_0 rfl) <|
     Obls.cons (Obl.grd 9 true _ _ _ rfl rfl rfl rfl rfl (by kernel_rfl) fun hg R' w' hw hs hd => by have a0 : QRep eStr A w' (R' 29) ((gtD p0 y4).1) := hd 0 _ _ _ rfl rfl rfl rfl hg; exact (of_load a0.ptr Try.isAgg9 Try.sizeOf9)) <|
     Obls.cons (Obl.grd 9 true _ _ _ rfl rfl rfl rfl rfl (by kernel_rfl) fun hg R' w' hw hs hd => by have a0 : Rep eStr A w' (R' 25) ((gtD p0 (y4 - (1 : Int))).1) := hd 0 _ _ _ rfl rfl rfl rfl hg; have a1 : Rep eStr A w' (R' 30) ((gtD p0 y4).1) := hd 1 _ _ _ rfl rfl rfl rfl hg; exact of_sgeq a0 a1) <|
     Obls.cons (Obl.grd 6 false _ _ _ rfl rfl rfl rfl rfl (by kernel_rfl) fun hg R' w' hw hs hd => by have a0 : R' 19 = .bool (decide ((0 : Int) < y4)) := hd 0 _ _ _ rfl rfl rfl rfl hg; exact of_pick (decide ((0 : Int) < y4)) a0 (fun hc => by have a1 : R' 31 = .bool (!(bLt ((gtD p0 (y4 - (1 : Int))).1) ((gtD p0 y4).1))) := hd 1 _ _ _ rfl rfl rfl rfl (g_and hg (beq_of hc)); show _ = Value.bool x10; rw [q11, hc]; exact a1) (fun hc => by show _ = Value.bool x10; rw [q11, hc]; exact rfl)) <|
     Obls.p (fun R' w' hw hs hd => by have a0 : R' 16 = .bool (decide (((gtD p0 y4).2) < (1 : Int))) := hd.g 0 rfl; exact of_pick (decide (((gtD p0 y4).2) < (1 : Int))) a0 (fun hc => by show _ = Value.bool x12; rw [q13, hc]; exact rfl) (fun hc => by have a2 : R' 32 = .bool x10 := hd 1 _ _ _ rfl rfl rfl rfl (g_and rfl (beq_of hc)); show _ = Value.bool x12; rw [q13, hc]; exact a2)) <|
     Obls.nil
   intro R w hw hs hF'
   replace h0 := (hs 0 rfl).trans h0
   replace h3 := (hs 3 rfl).trans h3
   have h33 : R 33 = .bool x12 := hF' 23 _ _ rfl rfl rfl
   replace f_v0 := f_v0.fr hw
   replace hA := hA.fr hw.size
   replace hF := hF.trans hw
   clear hs hF' hw
   refine seqR_nil ?_
   refine HT.cond x12 h33 (fun c14 => ?_) (fun c14 => ?_)
   ·have hr := cnd_t c14 hr
    refine HT.seq ?_
    refine HT.text (l := ⟨_, true, .raw (.bool false)⟩ :: []) (tl := []) (by kernel_rfl) (by kernel_rfl) (by kernel_rfl) ?_ ?_
    ·exact
      Obls.p (fun R' w' hw hs hd => of_assign rfl) <|
      Obls.nil
    intro R w hw hs hF'
    have h2 : R 2 = .bool false := hF' 0 _ _ rfl rfl rfl
    replace hA := hA.fr hw.size
    replace hF := hF.trans hw
    clear hs hF' hw
    refine seqR_nil ?_
    refine HT.ret ?_
    obtain rfl := Option.some.inj hr
    have hr := hr0
    replace hr : some _ = some _ := hr
    obtain rfl := Option.some.inj hr
    exact ⟨.inr rfl, [R 2], ⟨rfl, trivial⟩, h2, hF⟩
   ·have hr := cnd_f c14 hr
    refine HT.skip ?_
    obtain ⟨e15, hr⟩ := ck_some hr
    refine HT.text (l := ⟨_, true, .raw (.int .i64 y4)⟩ :: ⟨_, true, .raw (.int .i64 (y4 + (1 : Int)))⟩ :: ⟨_, true, .raw (.int .i64 (y4 + (1 : Int)))⟩ :: []) (tl := []) (by kernel_rfl) (by kernel_rfl) (by kernel_rfl) ?_ ?_
    ·exact
      Obls.p (fun R' w' hw hs hd => of_move ((hs 3 rfl).trans h3)) <|
      Obls.p (fun R' w' hw hs hd => by have a0 : R' 8 = .int .i64 y4 := hd.g 0 rfl; exact of_add a0 rfl e15) <|
      Obls.p (fun R' w' hw hs hd => by have a0 : R' 9 = .int .i64 (y4 + (1 : Int)) := hd.g 0 rfl; exact of_assign a0) <|
      Obls.nil
    intro R w hw hs hF'
    replace h0 := (hs 0 rfl).trans h0
    have h3 : R 3 = .int .i64 (y4 + (1 : Int)) := hF' 2 _ _ rfl rfl rfl
    replace f_v0 := f_v0.fr hw
    replace hA := hA.fr hw.size
    replace hF := hF.trans hw
    clear hs hF' hw
    refine seqR_nil ?_
    exact Exists.intro k (And.intro (Nat.lt_succ_self k) ⟨_, hr, hA, hF, h0, h3, f_v0⟩)
  ·have hr := cnd_f c5 hr
   refine HT.exit ?_
   obtain rfl := Option.some.inj hr
   exact Exists.intro _ ⟨rfl, hA, hF⟩
 rintro R w ⟨s3, rfl, hA, hF⟩
 have hr := exM_go hr
 refine HT.seq ?_
 refine HT.text (l := ⟨_, true, .raw (.bool true)⟩ :: []) (tl := []) (by kernel_rfl) (by kernel_rfl) (by kernel_rfl) ?_ ?_
 ·exact
   Obls.p (fun R' w' hw hs hd => of_assign rfl) <|
   Obls.nil
 intro R w hw hs hF'
 have h2 : R 2 = .bool true := hF' 0 _ _ rfl rfl rfl
 replace hA := hA.fr hw.size
 replace hF := hF.trans hw
 clear hs hF' hw
 refine seqR_nil ?_
 refine HT.ret ?_
 obtain rfl := Option.some.inj hr
 exact ⟨.inr rfl, [R 2], ⟨rfl, trivial⟩, h2, hF⟩
def M_spec_l1In (fu : Nat) (p0 : Int) (p1 : Int) (p2 : Int) : Option Bool :=
 bd ((decide (p1 ≤ p0)) && (decide (p0 ≤ p2))) fun x1 =>
 some x1
theorem M_spec_l1In_ok {fu : Nat} {A : Av} {p0 : Int} {p1 : Int} {p2 : Int} {r : Bool} (hr : M_spec_l1In fu p0 p1 p2 = some r) {w : World} {v0 : Value} {v1 : Value} {v2 : Value} (hA : AvOK A w) (h0 : v0 = .int .i64 p0) (h1 : v1 = .int .i64 p1) (h2 : v2 = .int .i64 p2) :
  Calls Try.prog 79 #[v0, v1, v2] w fun e w' => ∃ v, e = .returned v ∧ (v = .bool r ∧ Fr w w') := by
 unfold M_spec_l1In at hr
 obtain ⟨w0, hw0⟩ : ∃ w0, w0 = w := ⟨_, rfl⟩
 have hF : Fr w0 w := hw0 ▸ Fr.refl _
 rw [show Fr w = Fr w0 from hw0 ▸ rfl]
 clear hw0
 refine calls_of_HT2 [.tmp 6] Try.func79 Try.ntmps79 (by decide) rfl rfl (Nat.le_of_ble_eq_true rfl) ?_
 intro R hR
 replace h0 : R 0 = .int .i64 p0 := (hR 0 _ rfl).trans h0
 replace h1 : R 1 = .int .i64 p1 := (hR 1 _ rfl).trans h1
 replace h2 : R 2 = .int .i64 p2 := (hR 2 _ rfl).trans h2
 clear hR
 refine HT.seq ?_
 refine HT.text (l := ⟨_, true, .raw (.bool false)⟩ :: []) (tl := []) (by kernel_rfl) (by kernel_rfl) (by kernel_rfl) ?_ ?_
 ·exact
   Obls.p (fun R' w' hw hs hd => of_assign rfl) <|
   Obls.nil
 intro R w hw hs hF'
 replace h0 := (hs 0 rfl).trans h0
 replace h1 := (hs 1 rfl).trans h1
 replace h2 := (hs 2 rfl).trans h2
 replace hA := hA.fr hw.size
 replace hF := hF.trans hw
 clear hs hF' hw
 refine seqR_nil ?_
 refine HT.seq ?_
 obtain ⟨x1, q2, hr⟩ := bd_some hr
 refine HT.text (l := ⟨_, true, .raw (.int .i64 p0)⟩ :: ⟨_, true, .raw (.int .i64 p1)⟩ :: ⟨_, true, .raw (.bool (decide (p1 ≤ p0)))⟩ :: ⟨_, true, .raw (.bool (decide (p1 ≤ p0)))⟩ :: ⟨_, (true && ((decide (p1 ≤ p0)) == true)), .raw (.int .i64 p0)⟩ :: ⟨_, (true && ((decide (p1 ≤ p0)) == true)), .raw (.int .i64 p2)⟩ :: ⟨_, (true && ((decide (p1 ≤ p0)) == true)), .raw (.bool (decide (p0 ≤ p2)))⟩ :: ⟨_, true, .raw (.bool x1)⟩ :: ⟨_, true, .raw (.bool x1)⟩ :: []) (tl := []) (by kernel_rfl) (by kernel_rfl) (by kernel_rfl) ?_ ?_
 ·exact
   Obls.p (fun R' w' hw hs hd => of_move ((hs 0 rfl).trans h0)) <|
   Obls.p (fun R' w' hw hs hd => of_move ((hs 1 rfl).trans h1)) <|
   Obls.p (fun R' w' hw hs hd => by have a0 : R' 7 = .int .i64 p0 := hd.g 0 rfl; have a1 : R' 8 = .int .i64 p1 := hd.g 1 rfl; exact of_geq a0 a1) <|
   Obls.p (fun R' w' hw hs hd => by have a0 : R' 9 = .bool (decide (p1 ≤ p0)) := hd.g 0 rfl; exact of_move a0) <|
   Obls.cons (Obl.grd 3 true _ _ _ rfl rfl rfl rfl rfl (by kernel_rfl) fun hg R' w' hw hs hd => by have a0 : R' 0 = .int .i64 p0 := (hs 0 rfl).trans h0; exact of_move a0) <|
   Obls.cons (Obl.grd 3 true _ _ _ rfl rfl rfl rfl rfl (by kernel_rfl) fun hg R' w' hw hs hd => by have a0 : R' 2 = .int .i64 p2 := (hs 2 rfl).trans h2; exact of_move a0) <|
   Obls.cons (Obl.grd 3 true _ _ _ rfl rfl rfl rfl rfl (by kernel_rfl) fun hg R' w' hw hs hd => by have a0 : R' 11 = .int .i64 p0 := hd 0 _ _ _ rfl rfl rfl rfl hg; have a1 : R' 12 = .int .i64 p2 := hd 1 _ _ _ rfl rfl rfl rfl hg; exact of_leq a0 a1) <|
   Obls.p (fun R' w' hw hs hd => by have a0 : R' 10 = .bool (decide (p1 ≤ p0)) := hd.g 0 rfl; exact of_pick (decide (p1 ≤ p0)) a0 (fun hc => by have a1 : R' 13 = .bool (decide (p0 ≤ p2)) := hd 1 _ _ _ rfl rfl rfl rfl (g_and rfl (beq_of hc)); show _ = Value.bool x1; rw [q2, hc]; exact a1) (fun hc => by show _ = Value.bool x1; rw [q2, hc]; exact rfl)) <|
   Obls.p (fun R' w' hw hs hd => by have a0 : R' 14 = .bool x1 := hd.g 0 rfl; exact of_assign a0) <|
   Obls.nil
 intro R w hw hs hF'
 have h6 : R 6 = .bool x1 := hF' 8 _ _ rfl rfl rfl
 replace hA := hA.fr hw.size
 replace hF := hF.trans hw
 clear hs hF' hw
 refine seqR_nil ?_
 refine HT.ret ?_
 obtain rfl := Option.some.inj hr
 exact ⟨.inr rfl, [R 6], ⟨rfl, trivial⟩, h6, hF⟩
def M_spec_NewSetIndex (fu : Nat) (p0 : List T_impl_TokenCount) (p1 : Int) : Option (T_impl_SetIndex × Bool) :=
 cl true (M_spec_IsTokenTable fu p0) fun x2 =>
 cl (true && ((!x2) == false)) (M_spec_l1In fu p1 (1 : Int) (1000 : Int)) fun x4 =>
 bd ((!x2) || (!x4)) fun x6 =>
 bif x6 then (
  some (((0 : Int), ([] : List T_impl_TokenCount), ([] : List T_impl_IndexedSet)), false)
 ) else (
  ck (lenOK (([] : List T_impl_TokenCount).length + p0.length)) <|
  some ((p1, (([] : List T_impl_TokenCount) ++ p0), ([] : List T_impl_IndexedSet)), true)
 )
set_option linter.unusedSimpArgs false in
theorem M_spec_NewSetIndex_ok {fu : Nat} {A0 : Av} {p0 : List T_impl_TokenCount} {p1 : Int} {r : T_impl_SetIndex × Bool} (hr : M_spec_NewSetIndex fu p0 p1 = some r) {w : World} {v0 : Value} {v1 : Value} (hA : AvOK A0 w) (h0 : Rep (eSl E_impl_TokenCount) A0 w v0 p0) (h1 : v1 = .int .i64 p1) :
  Calls Try.prog 38 #[v0, v1] w fun e w' => ∃ v, e = .returned v ∧ ((∃ a b, v = .tuple #[a, b] ∧ Rep E_impl_SetIndex A0 w' a r.1 ∧ b = .bool r.2) ∧ Fr w w') := by
 unfold M_spec_NewSetIndex at hr
 obtain ⟨w0, hw0⟩ : ∃ w0, w0 = w := ⟨_, rfl⟩
 have hF : Fr w0 w := hw0 ▸ Fr.refl _
 have hA0 : ∀ b o, A0 b o → b < w0.heap.size := fun b o h => hw0 ▸ hA b o h
 have hA00 : AvOK A0 w0 := hA0
 rw [show Fr w = Fr w0 from hw0 ▸ rfl]
 clear hw0
 obtain ⟨A, hAe⟩ : ∃ A, A = A0 := ⟨_, rfl⟩
 have hAA : ∀ b o, A0 b o → A b o := fun b o h => hAe ▸ h
 replace hA : AvOK A w := hAe ▸ hA
 have hO : IniOK [] A w := IniOK.nil
 refine calls_of_HT2 [.cell 4 49, .tmp 5] Try.func38 Try.ntmps38 (by decide) rfl rfl (Nat.le_of_ble_eq_true rfl) ?_
 intro R hR
 have f_v0 : Rep (eSl E_impl_TokenCount) A w v0 p0 := hAe ▸ h0
 replace h0 : R 0 = v0 := hR 0 _ rfl
 replace h1 : R 1 = .int .i64 p1 := (hR 1 _ rfl).trans h1
 clear hR hAe
 refine HT.seq ?_
 refine HT.textR [] (⟨_, true, [], some (.box w0.heap.size 49 E_impl_SetIndex ((0 : Int), (([] : List T_impl_TokenCount), ([] : List T_impl_IndexedSet)))), true, fun A => .any⟩ :: ⟨_, true, [], none, true, fun A => .raw (.bool false)⟩ :: []) (by kernel_rfl) (by kernel_rfl) (Wf.mk' (by kernel_rfl) (UAll.cons ust_any (UAll.cons ust_raw (UAll.nil))) (by kernel_rfl) (by kernel_rfl)) hO hA ?_ ?_
 ·exact
   OblsR.cons (OblR.made _ rfl rfl rfl rfl fun A' R' w' ho hd => by exact made_alloc Try.zeroValue49 (fun A w => rep_pr rep1_int (rep_pr rep1_nil rep1_nil)) (Nat.le_trans hF.size ho.ch.size)) <|
   OblsR.p (fun A' R' w' ho hd => of_assign rfl) <|
   OblsR.nil
 intro done ρ σ A R w hdn hI
 replace h0 : R 0 = v0 := (hI.reg rfl).trans h0
 replace h1 : R 1 = .int .i64 p1 := (hI.reg rfl).trans h1
 obtain ⟨b4_0, e_b4_0⟩ := hI.boxv hdn 0 rfl rfl
 have h4 : R 4 = (.pointer (some ⟨b4_0, 0, none⟩)) := (hI.opvR hdn 0 0 rfl rfl rfl rfl rfl).symm.trans e_b4_0
 replace f_v0 := f_v0.stp hI.stp
 replace hAA := hI.low' hAA hA0 (hO.ge (trivial))
 replace hF : Fr w0 w := hF.tr hI.ch (hO.ge (trivial))
 replace hO : IniOK [ob (.pointer (some ⟨b4_0, 0, none⟩)) (.box w0.heap.size 49 E_impl_SetIndex ((0 : Int), (([] : List T_impl_TokenCount), ([] : List T_impl_IndexedSet))))] A w := hI.left hdn [(0, ob (.pointer (some ⟨b4_0, 0, none⟩)) (.box w0.heap.size 49 E_impl_SetIndex ((0 : Int), (([] : List T_impl_TokenCount), ([] : List T_impl_IndexedSet)))))] ⟨rfl, rfl, e_b4_0, rfl, rfl, trivial⟩
 replace hA := hI.avok
 clear hI
 refine HT.seq ?_
 refine HT.seq ?_
 obtain ⟨x2, q3, hr⟩ := cl_some hr
 obtain ⟨x4, q5, hr⟩ := cl_some hr
 obtain ⟨x6, q7, hr⟩ := bd_some hr
 refine HT.text (l := ⟨_, true, .raw v0⟩ :: ⟨_, true, .raw (.bool x2)⟩ :: ⟨_, true, .raw (.bool (!x2))⟩ :: ⟨_, true, .raw (.bool (!x2))⟩ :: ⟨_, (true && ((!x2) == false)), .raw (.int .i64 p1)⟩ :: ⟨_, (true && ((!x2) == false)), .raw (.bool x4)⟩ :: ⟨_, (true && ((!x2) == false)), .raw (.bool (!x4))⟩ :: ⟨_, true, .raw (.bool x6)⟩ :: []) (tl := []) (by kernel_rfl) (by kernel_rfl) (by kernel_rfl) ?_ ?_
 ·exact
   Obls.p (fun R' w' hw hs hd => of_move ((hs 0 rfl).trans h0)) <|
   Obls.p (fun R' w' hw hs hd => by have a0 : R' 6 = v0 := hd.g 0 rfl; have ra0 := (f_v0.fr hw).eq a0; exact of_call Try.call80 (M_spec_IsTokenTable_ok (q3 rfl) (hA.fr hw.size) ra0)) <|
   Obls.p (fun R' w' hw hs hd => by have a0 : R' 7 = .bool x2 := hd.g 0 rfl; exact of_not a0) <|
   Obls.p (fun R' w' hw hs hd => by have a0 : R' 8 = .bool (!x2) := hd.g 0 rfl; exact of_move a0) <|
   Obls.cons (Obl.grd 3 false _ _ _ rfl rfl rfl rfl rfl (by kernel_rfl) fun hg R' w' hw hs hd => by have a0 : R' 1 = .int .i64 p1 := (hs 1 rfl).trans h1; exact of_move a0) <|
   Obls.cons (Obl.grd 3 false _ _ _ rfl rfl rfl rfl rfl (by kernel_rfl) fun hg R' w' hw hs hd => by have a0 : R' 10 = .int .i64 p1 := hd 0 _ _ _ rfl rfl rfl rfl hg; exact of_call Try.call79 (M_spec_l1In_ok (q5 hg) (hA.fr hw.size) a0 rfl rfl)) <|
   Obls.cons (Obl.grd 3 false _ _ _ rfl rfl rfl rfl rfl (by kernel_rfl) fun hg R' w' hw hs hd => by have a0 : R' 11 = .bool x4 := hd 0 _ _ _ rfl rfl rfl rfl hg; exact of_not a0) <|
   Obls.p (fun R' w' hw hs hd => by have a0 : R' 9 = .bool (!x2) := hd.g 0 rfl; exact of_pick (!x2) a0 (fun hc => by show _ = Value.bool x6; rw [q7, hc]; exact rfl) (fun hc => by have a2 : R' 12 = .bool (!x4) := hd 1 _ _ _ rfl rfl rfl rfl (g_and rfl (beq_of hc)); show _ = Value.bool x6; rw [q7, hc]; exact a2)) <|
   Obls.nil
 intro R w hw hs hF'
 replace h0 := (hs 0 rfl).trans h0
 replace h1 := (hs 1 rfl).trans h1
 replace h4 := (hs 4 rfl).trans h4
 have h13 : R 13 = .bool x6 := hF' 7 _ _ rfl rfl rfl
 replace f_v0 := f_v0.fr hw
 replace hO := hO.fr hw
 replace hA := hA.fr hw.size
 replace hF := hF.trans hw
 clear hs hF' hw
 refine seqR_nil ?_
 refine HT.cond x6 h13 (fun c8 => ?_) (fun c8 => ?_)
 ·have hr := cnd_t c8 hr
  refine HT.seq ?_
  refine HT.textR [ob (.pointer (some ⟨b4_0, 0, none⟩)) (.box w0.heap.size 49 E_impl_SetIndex ((0 : Int), (([] : List T_impl_TokenCount), ([] : List T_impl_IndexedSet))))] (⟨_, true, [], none, true, fun A => .rep E_impl_SetIndex A ((0 : Int), ([] : List T_impl_TokenCount), ([] : List T_impl_IndexedSet))⟩ :: ⟨_, true, [0], some (.box w0.heap.size 49 E_impl_SetIndex ((0 : Int), ([] : List T_impl_TokenCount), ([] : List T_impl_IndexedSet))), false, fun A => .any⟩ :: ⟨_, true, [], none, true, fun A => .raw (.bool false)⟩ :: []) (by kernel_rfl) (by kernel_rfl) (Wf.mk' (by kernel_rfl) (UAll.cons ust_rep (UAll.cons ust_any (UAll.cons ust_raw (UAll.nil)))) (by kernel_rfl) (by kernel_rfl)) hO hA ?_ ?_
  ·exact
    OblsR.p (fun A' R' w' ho hd => of_build_raw (v := .agg #[.int .i64 0, .slice none 0 0, .slice none 0 0]) (by simp [execOp, Instr.build, evalR, underlying, Try.underlying49, Try.zeroValue49, Try.sizeOf27, Try.sizeOf3, Try.sizeOf47, go_sem, Instr.fill]) ⟨_, rfl, rep_pr rep1_int (rep_pr rep1_nil rep1_nil)⟩) <|
    OblsR.cons (OblR.took 0 _ _ rfl rfl rfl rfl rfl fun A' R' w' ho hd u hok hav hin hop hds => by have a0 : R' 4 = (.pointer (some ⟨b4_0, 0, none⟩)) := (ho.old 4 rfl).trans h4; have a1 : Rep E_impl_SetIndex A' w' (R' 14) ((0 : Int), ([] : List T_impl_TokenCount), ([] : List T_impl_IndexedSet)) := hd.g 0 rfl; exact took_store a1 a0 (hin _ rfl) hok hav (FldS.id _) Try.sizeOf49 rfl) <|
    OblsR.p (fun A' R' w' ho hd => of_assign rfl) <|
    OblsR.nil
  intro done ρ σ A R w hdn hI
  replace h4 : R 4 = (.pointer (some ⟨b4_0, 0, none⟩)) := (hI.reg rfl).trans h4
  have z9 := hI.inivR 0 rfl
  have z10 := (hI.opnR hdn 2 1 rfl rfl rfl rfl rfl).trans z9
  have h5 : R 5 = .bool false := hI.fact hdn (i := 2) rfl rfl rfl
  replace hAA := hI.low' hAA hA0 (hO.ge (⟨rfl, trivial⟩))
  replace hF : Fr w0 w := hF.tr hI.ch (hO.ge (⟨rfl, trivial⟩))
  replace hO : IniOK [ob (.pointer (some ⟨b4_0, 0, none⟩)) (.box w0.heap.size 49 E_impl_SetIndex ((0 : Int), ([] : List T_impl_TokenCount), ([] : List T_impl_IndexedSet)))] A w := hI.left hdn [(2, ob (.pointer (some ⟨b4_0, 0, none⟩)) (.box w0.heap.size 49 E_impl_SetIndex ((0 : Int), ([] : List T_impl_TokenCount), ([] : List T_impl_IndexedSet))))] ⟨rfl, rfl, z10, rfl, rfl, trivial⟩
  replace hA := hI.avok
  clear hI
  refine HT.ret ?_
  obtain rfl := Option.some.inj hr
  obtain ⟨v_4, e_4, p_4⟩ := res_cell (hO.ok 0 _ rfl).1 h4 Try.isAgg49 Try.sizeOf49 hAA
  exact ⟨.inr rfl, [v_4, R 5], ⟨e_4, ⟨rfl, trivial⟩⟩, ⟨_, _, rfl, p_4, h5⟩, hF⟩
 ·have hr := cnd_f c8 hr
  refine HT.skip ?_
  refine HT.seq ?_
  obtain ⟨e11, hr⟩ := ck_some hr
  refine HT.textR [ob (.pointer (some ⟨b4_0, 0, none⟩)) (.box w0.heap.size 49 E_impl_SetIndex ((0 : Int), (([] : List T_impl_TokenCount), ([] : List T_impl_IndexedSet))))] (⟨_, true, [], none, true, fun A => .raw (.int .i64 p1)⟩ :: ⟨_, true, [], some (.vec w0.heap.size 76 E_impl_TokenCount ([] : List T_impl_TokenCount)), true, fun A => .any⟩ :: ⟨_, true, [], none, true, fun A => .raw v0⟩ :: ⟨_, true, [2], some (.nul), false, fun A => .rep (eSl E_impl_TokenCount) A (([] : List T_impl_TokenCount) ++ p0)⟩ :: ⟨_, true, [], none, true, fun A => .rep E_impl_SetIndex A (p1, (([] : List T_impl_TokenCount) ++ p0), ([] : List T_impl_IndexedSet))⟩ :: ⟨_, true, [0], some (.box w0.heap.size 49 E_impl_SetIndex (p1, (([] : List T_impl_TokenCount) ++ p0), ([] : List T_impl_IndexedSet))), false, fun A => .any⟩ :: ⟨_, true, [], none, true, fun A => .raw (.bool true)⟩ :: []) (by kernel_rfl) (by kernel_rfl) (Wf.mk' (by kernel_rfl) (UAll.cons ust_raw (UAll.cons ust_any (UAll.cons ust_raw (UAll.cons ust_rep (UAll.cons ust_rep (UAll.cons ust_any (UAll.cons ust_raw (UAll.nil)))))))) (by kernel_rfl) (by kernel_rfl)) hO hA ?_ ?_
  ·exact
    OblsR.p (fun A' R' w' ho hd => of_move ((ho.old 1 rfl).trans h1)) <|
    OblsR.cons (OblR.made _ rfl rfl rfl rfl fun A' R' w' ho hd => by exact made_build [] (E := E_impl_TokenCount) trivial Try.underlying27 Try.sizeOf76 Try.zeroValue76 rfl rfl rfl (Nat.le_trans hF.size ho.ch.size)) <|
    OblsR.p (fun A' R' w' ho hd => of_move ((ho.old 0 rfl).trans h0)) <|
    OblsR.cons (OblR.frz 2 _ rfl rfl rfl rfl rfl fun A' R' w' ho hd u hok hav hin hop hds => by have a1 : R' 17 = v0 := hd.g 1 rfl; have ra1 := (f_v0.stp ho.stp).eq a1; exact OpR.thaw (took_append (hop _ _ rfl rfl rfl rfl).symm hok hav (Nat.le_trans hF.size ho.ch.size) ra1 Try.underlying27 el_76 e11) ho.av hav) <|
    OblsR.p (fun A' R' w' ho hd => by have a0 : R' 15 = .int .i64 p1 := hd.g 0 rfl; have a1 : Rep (eSl E_impl_TokenCount) A' w' (R' 18) (([] : List T_impl_TokenCount) ++ p0) := hd.g 1 rfl; obtain ⟨c12a, c12n, c12c, c12, c12r⟩ := rep_sl_val a1; exact of_build_raw (v := .agg #[.int .i64 p1, .slice c12a c12n c12c, .slice none 0 0]) (by simp [execOp, Instr.build, evalR, a0, c12, underlying, Try.underlying49, Try.zeroValue49, Try.sizeOf27, Try.sizeOf3, Try.sizeOf47, go_sem, Instr.fill]) ⟨_, rfl, rep_pr rep1_int (rep_pr c12r rep1_nil)⟩) <|
    OblsR.cons (OblR.took 0 _ _ rfl rfl rfl rfl rfl fun A' R' w' ho hd u hok hav hin hop hds => by have a0 : R' 4 = (.pointer (some ⟨b4_0, 0, none⟩)) := (ho.old 4 rfl).trans h4; have a1 : Rep E_impl_SetIndex A' w' (R' 19) (p1, (([] : List T_impl_TokenCount) ++ p0), ([] : List T_impl_IndexedSet)) := hd.g 0 rfl; exact took_store a1 a0 (hin _ rfl) hok hav (FldS.id _) Try.sizeOf49 rfl) <|
    OblsR.p (fun A' R' w' ho hd => of_assign rfl) <|
    OblsR.nil
  intro done ρ σ A R w hdn hI
  replace h4 : R 4 = (.pointer (some ⟨b4_0, 0, none⟩)) := (hI.reg rfl).trans h4
  have z13 := hI.inivR 0 rfl
  have z14 := (hI.opnR hdn 6 5 rfl rfl rfl rfl rfl).trans z13
  have h5 : R 5 = .bool true := hI.fact hdn (i := 6) rfl rfl rfl
  replace hAA := hI.low' hAA hA0 (hO.ge (⟨rfl, trivial⟩))
  replace hF : Fr w0 w := hF.tr hI.ch (hO.ge (⟨rfl, trivial⟩))
  replace hO : IniOK [ob (.pointer (some ⟨b4_0, 0, none⟩)) (.box w0.heap.size 49 E_impl_SetIndex (p1, (([] : List T_impl_TokenCount) ++ p0), ([] : List T_impl_IndexedSet)))] A w := hI.left hdn [(6, ob (.pointer (some ⟨b4_0, 0, none⟩)) (.box w0.heap.size 49 E_impl_SetIndex (p1, (([] : List T_impl_TokenCount) ++ p0), ([] : List T_impl_IndexedSet))))] ⟨rfl, rfl, z14, rfl, rfl, trivial⟩
  replace hA := hI.avok
  clear hI
  refine HT.ret ?_
  obtain rfl := Option.some.inj hr
  obtain ⟨v_4, e_4, p_4⟩ := res_cell (hO.ok 0 _ rfl).1 h4 Try.isAgg49 Try.sizeOf49 hAA
  exact ⟨.inr rfl, [v_4, R 5], ⟨e_4, ⟨rfl, trivial⟩⟩, ⟨_, _, rfl, p_4, h5⟩, hF⟩
def M_slices_Clone_impl_TokenCount_impl_TokenCount (fu : Nat) (p0 : List T_impl_TokenCount) : Option (List T_impl_TokenCount) :=
 ck (lenOK (([] : List T_impl_TokenCount).length + p0.length)) <|
 some (([] : List T_impl_TokenCount) ++ p0)
theorem M_slices_Clone_impl_TokenCount_impl_TokenCount_ok {fu : Nat} {A0 : Av} {p0 : List T_impl_TokenCount} {r : List T_impl_TokenCount} (hr : M_slices_Clone_impl_TokenCount_impl_TokenCount fu p0 = some r) {w : World} {v0 : Value} (hA : AvOK A0 w) (h0 : Rep (eSl E_impl_TokenCount) A0 w v0 p0) :
  Calls Try.prog 86 #[v0] w fun e w' => ∃ v, e = .returned v ∧ ((Res.vec w.heap.size 76 E_impl_TokenCount r).ok (addA A0 v) v w' ∧ Fr w w') := by
 unfold M_slices_Clone_impl_TokenCount_impl_TokenCount at hr
 obtain ⟨w0, hw0⟩ : ∃ w0, w0 = w := ⟨_, rfl⟩
 have hF : Fr w0 w := hw0 ▸ Fr.refl _
 have hA0 : ∀ b o, A0 b o → b < w0.heap.size := fun b o h => hw0 ▸ hA b o h
 have hA00 : AvOK A0 w0 := hA0
 rw [show w.heap.size = w0.heap.size from hw0 ▸ rfl]
 rw [show Fr w = Fr w0 from hw0 ▸ rfl]
 clear hw0
 obtain ⟨A, hAe⟩ : ∃ A, A = A0 := ⟨_, rfl⟩
 have hAA : ∀ b o, A0 b o → A b o := fun b o h => hAe ▸ h
 replace hA : AvOK A w := hAe ▸ hA
 have hO : IniOK [] A w := IniOK.nil
 refine calls_of_HT2 [.tmp 2] Try.func86 Try.ntmps86 (by decide) rfl rfl (Nat.le_of_ble_eq_true rfl) ?_
 intro R hR
 have f_v0 : Rep (eSl E_impl_TokenCount) A w v0 p0 := hAe ▸ h0
 replace h0 : R 0 = v0 := hR 0 _ rfl
 clear hR hAe
 refine HT.seq ?_
 refine HT.text (l := ⟨_, true, .any⟩ :: []) (tl := []) (by kernel_rfl) (by kernel_rfl) (by kernel_rfl) ?_ ?_
 ·exact
   Obls.p (fun R' w' hw hs hd => of_assign trivial) <|
   Obls.nil
 intro R w hw hs hF'
 replace h0 := (hs 0 rfl).trans h0
 replace f_v0 := f_v0.fr hw
 replace hO := hO.fr hw
 replace hA := hA.fr hw.size
 replace hF := hF.trans hw
 clear hs hF' hw
 refine seqR_nil ?_
 refine HT.seq ?_
 refine HT.seq ?_
 refine HT.text (l := ⟨_, true, .raw v0⟩ :: ⟨_, true, .raw (.bool (isNilV v0))⟩ :: []) (tl := []) (by kernel_rfl) (by kernel_rfl) (by kernel_rfl) ?_ ?_
 ·exact
   Obls.p (fun R' w' hw hs hd => of_move ((hs 0 rfl).trans h0)) <|
   Obls.p (fun R' w' hw hs hd => by have a0 : R' 3 = v0 := hd.g 0 rfl; have ra0 := f_v0.fr hw; exact of_nil_eql a0 ra0 rfl Try.underlying27) <|
   Obls.nil
 intro R w hw hs hF'
 replace h0 := (hs 0 rfl).trans h0
 have h4 : R 4 = .bool (isNilV v0) := hF' 1 _ _ rfl rfl rfl
 replace f_v0 := f_v0.fr hw
 replace hO := hO.fr hw
 replace hA := hA.fr hw.size
 replace hF := hF.trans hw
 clear hs hF' hw
 refine seqR_nil ?_
 refine HT.cond (isNilV v0) h4 (fun c1 => ?_) (fun c1 => ?_)
 ·obtain rfl := nil_of_rep f_v0 c1
  refine HT.seq ?_
  refine HT.text (l := ⟨_, true, .raw (.slice none 0 0)⟩ :: []) (tl := []) (by kernel_rfl) (by kernel_rfl) (by kernel_rfl) ?_ ?_
  ·exact
    Obls.p (fun R' w' hw hs hd => of_assign rfl) <|
    Obls.nil
  intro R w hw hs hF'
  obtain ⟨u2, n_u2⟩ : ∃ u, u = Value.slice none 0 0 := ⟨_, rfl⟩
  have h2 : R 2 = u2 := (hF' 0 _ _ rfl rfl rfl).trans n_u2.symm
  replace hO := hO.fr hw
  replace hA := hA.fr hw.size
  replace hF := hF.trans hw
  clear hs hF' hw
  refine seqR_nil ?_
  replace hO := hO.nilcons (u := u2) n_u2 w0.heap.size 76 E_impl_TokenCount
  refine HT.ret ?_
  replace hr : some ([] : List T_impl_TokenCount) = some r := hr
  obtain rfl := Option.some.inj hr
  exact ⟨.inr rfl, [R 2], ⟨rfl, trivial⟩, (own_post (hO.ok 0 _ rfl) hAA h2), hF⟩
 ·skip
  refine HT.skip ?_
  refine HT.seq ?_
  obtain ⟨e3, hr⟩ := ck_some hr
  refine HT.textR [] (⟨_, true, [], some (.vec w0.heap.size 76 E_impl_TokenCount ([] : List T_impl_TokenCount)), true, fun A => .any⟩ :: ⟨_, true, [], none, true, fun A => .raw v0⟩ :: ⟨_, true, [0], some (.vec w0.heap.size 76 E_impl_TokenCount (([] : List T_impl_TokenCount) ++ p0)), true, fun A => .any⟩ :: ⟨_, true, [2], some (.vec w0.heap.size 76 E_impl_TokenCount (([] : List T_impl_TokenCount) ++ p0)), true, fun A => .any⟩ :: []) (by kernel_rfl) (by kernel_rfl) (Wf.mk' (by kernel_rfl) (UAll.cons ust_any (UAll.cons ust_raw (UAll.cons ust_any (UAll.cons ust_any (UAll.nil))))) (by kernel_rfl) (by kernel_rfl)) hO hA ?_ ?_
  ·exact
    OblsR.cons (OblR.made _ rfl rfl rfl rfl fun A' R' w' ho hd => by exact made_build [] (E := E_impl_TokenCount) trivial Try.underlying27 Try.sizeOf76 Try.zeroValue76 rfl rfl rfl (Nat.le_trans hF.size ho.ch.size)) <|
    OblsR.p (fun A' R' w' ho hd => of_move ((ho.old 0 rfl).trans h0)) <|
    OblsR.cons (OblR.took 0 _ _ rfl rfl rfl rfl rfl fun A' R' w' ho hd u hok hav hin hop hds => by have a1 : R' 6 = v0 := hd.g 1 rfl; have ra1 := (f_v0.stp ho.stp).eq a1; exact took_append (hop _ _ rfl rfl rfl rfl).symm hok hav (Nat.le_trans hF.size ho.ch.size) ra1 Try.underlying27 el_76 e3) <|
    OblsR.cons (OblR.took 2 _ _ rfl rfl rfl rfl rfl fun A' R' w' ho hd u hok hav hin hop hds => by exact took_assign (hop _ _ rfl rfl rfl rfl).symm hok hav) <|
    OblsR.nil
  intro done ρ σ A R w hdn hI
  obtain ⟨u4, e_u4⟩ : ∃ u, ρ 3 = u := ⟨_, rfl⟩
  have h2 : R 2 = u4 := (hI.opvR hdn 3 3 rfl rfl rfl rfl rfl).symm.trans e_u4
  replace hAA := hI.low' hAA hA0 (hO.ge (trivial))
  replace hF : Fr w0 w := hF.tr hI.ch (hO.ge (trivial))
  replace hO : IniOK [ob u4 (.vec w0.heap.size 76 E_impl_TokenCount (([] : List T_impl_TokenCount) ++ p0))] A w := hI.left hdn [(3, ob u4 (.vec w0.heap.size 76 E_impl_TokenCount (([] : List T_impl_TokenCount) ++ p0)))] ⟨rfl, rfl, e_u4, rfl, rfl, trivial⟩
  replace hA := hI.avok
  clear hI
  refine HT.ret ?_
  obtain rfl := Option.some.inj hr
  exact ⟨.inr rfl, [R 2], ⟨rfl, trivial⟩, (own_post (hO.ok 0 _ rfl) hAA h2), hF⟩
theorem M_slices_Clone_impl_TokenCount_impl_TokenCount_okR {fu : Nat} {A0 : Av} {p0 : List T_impl_TokenCount} {r : List T_impl_TokenCount} (hr : M_slices_Clone_impl_TokenCount_impl_TokenCount fu p0 = some r) {w : World} {v0 : Value} (hA : AvOK A0 w) (h0 : Rep (eSl E_impl_TokenCount) A0 w v0 p0) :
  Calls Try.prog 86 #[v0] w fun e w' => ∃ v, e = .returned v ∧ (Rep (eSl E_impl_TokenCount) A0 w' v r ∧ Fr w w') := by
 refine Calls.mono (M_slices_Clone_impl_TokenCount_impl_TokenCount_ok hr hA h0) ?_
 rintro e w' ⟨v, he, hv, hf⟩
 exact ⟨v, he, vec_rep hv (fun b o h => .inl h) hA, hf⟩
def M_impl_IsTokenTable_L0 (fu : Nat) (p0 : List T_impl_TokenCount) : Nat → Int → Option (Ex Bool Unit)
 | 0, _ => none
 | k + 1, y4 =>
  bif (decide (y4 < (p0.length : Int))) then (
   ck (inR y4 p0.length) <|
   ck (!((true && ((decide (((gtD p0 y4).2) < (1 : Int))) == false)) && ((decide ((0 : Int) < y4)) == true)) || i64B (y4 - (1 : Int))) <|
   ck (!((true && ((decide (((gtD p0 y4).2) < (1 : Int))) == false)) && ((decide ((0 : Int) < y4)) == true)) || inR (y4 - (1 : Int)) p0.length) <|
   bd ((decide ((0 : Int) < y4)) && (!(bLt ((gtD p0 (y4 - (1 : Int))).1) ((gtD p0 y4).1)))) fun x11 =>
   bd ((decide (((gtD p0 y4).2) < (1 : Int))) || x11) fun x13 =>
   bif x13 then (
    some (Ex.ret false)
   ) else (
    ck (i64B (y4 + (1 : Int))) <|
    M_impl_IsTokenTable_L0 fu p0 k (y4 + (1 : Int))
   )
  ) else (
   some (Ex.go ())
  )
def M_impl_IsTokenTable (fu : Nat) (p0 : List T_impl_TokenCount) : Option Bool :=
 cl true (M_impl_IsTokenTable_L0 fu p0 fu (0 : Int)) fun rl1 =>
 exM rl1 (fun r => some r) fun s3 =>
 some true
theorem M_impl_IsTokenTable_ok {fu : Nat} {A0 : Av} {p0 : List T_impl_TokenCount} {r : Bool} (hr : M_impl_IsTokenTable fu p0 = some r) {w : World} {v0 : Value} (hA : AvOK A0 w) (h0 : Rep (eSl E_impl_TokenCount) A0 w v0 p0) :
  Calls Try.prog 82 #[v0] w fun e w' => ∃ v, e = .returned v ∧ (v = .bool r ∧ Fr w w') := by
 unfold M_impl_IsTokenTable at hr
 obtain ⟨w0, hw0⟩ : ∃ w0, w0 = w := ⟨_, rfl⟩
 have hF : Fr w0 w := hw0 ▸ Fr.refl _
 have hA0 : ∀ b o, A0 b o → b < w0.heap.size := fun b o h => hw0 ▸ hA b o h
 have hA00 : AvOK A0 w0 := hA0
 rw [show Fr w = Fr w0 from hw0 ▸ rfl]
 clear hw0
 obtain ⟨A, hAe⟩ : ∃ A, A = A0 := ⟨_, rfl⟩
 have hAA : ∀ b o, A0 b o → A b o := fun b o h => hAe ▸ h
 replace hA : AvOK A w := hAe ▸ hA
 have hO : IniOK [] A w := IniOK.nil
 refine calls_of_HT2 [.tmp 2] Try.func82 Try.ntmps82 (by decide) rfl rfl (Nat.le_of_ble_eq_true rfl) ?_
 intro R hR
 have f_v0 : Rep (eSl E_impl_TokenCount) A w v0 p0 := hAe ▸ h0
 replace h0 : R 0 = v0 := hR 0 _ rfl
 clear hR hAe
 refine HT.seq ?_
 refine HT.text (l := ⟨_, true, .raw (.bool false)⟩ :: []) (tl := []) (by kernel_rfl) (by kernel_rfl) (by kernel_rfl) ?_ ?_
 ·exact
   Obls.p (fun R' w' hw hs hd => of_assign rfl) <|
   Obls.nil
 intro R w hw hs hF'
 replace h0 := (hs 0 rfl).trans h0
 replace f_v0 := f_v0.fr hw
 replace hO := hO.fr hw
 replace hA := hA.fr hw.size
 replace hF := hF.trans hw
 clear hs hF' hw
 refine seqR_nil ?_
 refine HT.seq ?_
 refine HT.seq ?_
 refine HT.text (l := ⟨_, true, .raw v0⟩ :: ⟨_, true, .raw (.int .i64 (p0.length : Int))⟩ :: ⟨_, true, .raw (.int .i64 (0 : Int))⟩ :: []) (tl := []) (by kernel_rfl) (by kernel_rfl) (by kernel_rfl) ?_ ?_
 ·exact
   Obls.p (fun R' w' hw hs hd => of_move ((hs 0 rfl).trans h0)) <|
   Obls.p (fun R' w' hw hs hd => by have a0 : R' 5 = v0 := hd.g 0 rfl; have ra0 := (f_v0.fr hw).eq a0; exact of_len_sl (aT := #[]) ra0 Try.underlying27) <|
   Obls.p (fun R' w' hw hs hd => of_move rfl) <|
   Obls.nil
 intro R w hw hs hF'
 replace h0 := (hs 0 rfl).trans h0
 have h5 : R 5 = v0 := hF' 0 _ _ rfl rfl rfl
 have h6 : R 6 = .int .i64 (p0.length : Int) := hF' 1 _ _ rfl rfl rfl
 have h7 : R 7 = .int .i64 (0 : Int) := hF' 2 _ _ rfl rfl rfl
 replace f_v0 := f_v0.fr hw
 replace hO := hO.fr hw
 replace hA := hA.fr hw.size
 replace hF := hF.trans hw
 clear hs hF' hw
 refine seqR_nil ?_
 obtain ⟨rl1, q2, hr⟩ := cl_some hr
 replace q2 := q2 rfl
 refine HT.cut0 (fun R w => ∃ A : Av, ∃ (s3 : Unit), rl1 = Ex.go s3 ∧ AvOK A w ∧ Fr w0 w ∧ (∀ b o, A0 b o → A b o) ∧ IniOK [] A w) ?_ ?_
 ·refine HT.block ?_
  refine HT.loop (fun k R w => ∃ A : Av, ∃ (y4 : Int), M_impl_IsTokenTable_L0 fu p0 k y4 = some rl1 ∧ AvOK A w ∧ Fr w0 w ∧ (∀ b o, A0 b o → A b o) ∧ IniOK [] A w ∧ R 0 = v0 ∧ R 5 = v0 ∧ R 6 = .int .i64 (p0.length : Int) ∧ R 7 = .int .i64 y4 ∧ Rep (eSl E_impl_TokenCount) A w v0 p0) fu ⟨_, _, q2, hA, hF, hAA, hO, h0, h5, h6, h7, f_v0⟩ ?_
  have hr0 := hr; clear hr q2
  rintro k R w ⟨A, y4, hr, hA, hF, hAA, hO, h0, h5, h6, h7, f_v0⟩
  rcases k with _ | k
  ·cases (show none = some _ from hr)
  rw [M_impl_IsTokenTable_L0] at hr
  refine HT.seq ?_
  refine HT.text (l := ⟨_, true, .raw (.bool (decide (y4 < (p0.length : Int))))⟩ :: []) (tl := []) (by kernel_rfl) (by kernel_rfl) (by kernel_rfl) ?_ ?_
  ·exact
    Obls.p (fun R' w' hw hs hd => of_lss ((hs 7 rfl).trans h7) ((hs 6 rfl).trans h6)) <|
    Obls.nil
  intro R w hw hs hF'
  replace h0 := (hs 0 rfl).trans h0
  replace h5 := (hs 5 rfl).trans h5
  replace h6 := (hs 6 rfl).trans h6
  replace h7 := (hs 7 rfl).trans h7
  have h8 : R 8 = .bool (decide (y4 < (p0.length : Int))) := hF' 0 _ _ rfl rfl rfl
  replace f_v0 := f_v0.fr hw
  replace hO := hO.fr hw
  replace hA := hA.fr hw.size
  replace hF := hF.trans hw
  clear hs hF' hw
  refine seqR_nil ?_
  refine HT.seq ?_
  refine HT.cond (decide (y4 < (p0.length : Int))) h8 (fun c5 => ?_) (fun c5 => ?_)
  ·have hr := cnd_t c5 hr
   refine HT.skip ?_
   refine HT.seq ?_
   refine HT.block ?_
   refine HT.seq ?_
   obtain ⟨e6, hr⟩ := ck_some hr
   refine HT.textR [] (⟨_, true, [], none, true, fun A => .raw (.int .i64 y4)⟩ :: ⟨_, true, [], none, true, fun A => .qtr E_impl_TokenCount A (gtD p0 y4)⟩ :: ⟨_, true, [], none, true, fun A => .rep E_impl_TokenCount A (gtD p0 y4)⟩ :: ⟨_, true, [], some (.box w0.heap.size 76 E_impl_TokenCount (([] : List UInt8), (0 : Int))), true, fun A => .any⟩ :: ⟨_, true, [], none, true, fun A => .raw (.int .i64 y4)⟩ :: ⟨_, true, [3], some (.box w0.heap.size 76 E_impl_TokenCount (gtD p0 y4)), false, fun A => .any⟩ :: []) (by kernel_rfl) (by kernel_rfl) (Wf.mk' (by kernel_rfl) (UAll.cons ust_raw (UAll.cons ust_qtr (UAll.cons ust_rep (UAll.cons ust_any (UAll.cons ust_raw (UAll.cons ust_any (UAll.nil))))))) (by kernel_rfl) (by kernel_rfl)) hO hA ?_ ?_
   ·exact
     OblsR.p (fun A' R' w' ho hd => of_move ((ho.old 7 rfl).trans h7)) <|
     OblsR.p (fun A' R' w' ho hd => by have ra0 := (f_v0.stp ho.stp).eq ((ho.old 5 rfl).trans h5); exact of_indexAddr ra0 ((ho.old 7 rfl).trans h7) Try.underlying27 Try.sizeOf76 e6) <|
     OblsR.p (fun A' R' w' ho hd => by have a0 : QRep E_impl_TokenCount A' w' (R' 10) (gtD p0 y4) := hd.g 0 rfl; exact (of_load a0.ptr Try.isAgg76 Try.sizeOf76)) <|
     OblsR.cons (OblR.made _ rfl rfl rfl rfl fun A' R' w' ho hd => by exact made_alloc Try.zeroValue76 (fun A w => rep_pr (rep1_str rfl (by decide)) rep1_int) (Nat.le_trans hF.size ho.ch.size)) <|
     OblsR.p (fun A' R' w' ho hd => by have a0 : R' 9 = .int .i64 y4 := hd.g 0 rfl; exact of_assign a0) <|
     OblsR.cons (OblR.took 3 _ _ rfl rfl rfl rfl rfl fun A' R' w' ho hd u hok hav hin hop hds => by have a1 : Rep E_impl_TokenCount A' w' (R' 11) (gtD p0 y4) := hd.g 1 rfl; obtain ⟨b, hb, hB', hbx⟩ := hok; have hop' := hop _ _ rfl rfl rfl rfl; exact took_store a1 (hop'.symm.trans hb) hb ⟨b, hb, hB', hbx⟩ hav (FldS.id _) Try.sizeOf76 rfl) <|
     OblsR.nil
   intro done ρ σ A R w hdn hI
   replace h0 : R 0 = v0 := (hI.reg rfl).trans h0
   replace h5 : R 5 = v0 := (hI.reg rfl).trans h5
   replace h6 : R 6 = .int .i64 (p0.length : Int) := (hI.reg rfl).trans h6
   replace h7 : R 7 = .int .i64 y4 := (hI.reg rfl).trans h7
   obtain ⟨b4_6, e_b4_6⟩ := hI.boxv hdn 5 rfl rfl
   have z8 := (hI.opnR hdn 5 5 rfl rfl rfl rfl rfl).symm.trans e_b4_6
   have h4 : R 4 = (.pointer (some ⟨b4_6, 0, none⟩)) := (hI.opvR hdn 3 3 rfl rfl rfl rfl rfl).symm.trans z8
   have h3 : R 3 = .int .i64 y4 := hI.fact hdn (i := 4) rfl rfl rfl
   replace f_v0 := f_v0.stp hI.stp
   replace hAA := hI.low' hAA hA0 (hO.ge (trivial))
   replace hF : Fr w0 w := hF.tr hI.ch (hO.ge (trivial))
   replace hO : IniOK [ob (.pointer (some ⟨b4_6, 0, none⟩)) (.box w0.heap.size 76 E_impl_TokenCount (gtD p0 y4))] A w := hI.left hdn [(5, ob (.pointer (some ⟨b4_6, 0, none⟩)) (.box w0.heap.size 76 E_impl_TokenCount (gtD p0 y4)))] ⟨rfl, rfl, e_b4_6, rfl, rfl, trivial⟩
   replace hA := hI.avok
   clear hI
   refine HT.seq ?_
   obtain ⟨e9, hr⟩ := ck_some hr
   obtain ⟨e10, hr⟩ := ck_some hr
   obtain ⟨x11, q12, hr⟩ := bd_some hr
   obtain ⟨x13, q14, hr⟩ := bd_some hr
   refine HT.draw (by kernel_rfl) (l := ⟨_, true, .raw (.pointer (some ⟨b4_6, 1, none⟩))⟩ :: ⟨_, true, .raw (.int .i64 ((gtD p0 y4).2))⟩ :: ⟨_, true, .raw (.bool (decide (((gtD p0 y4).2) < (1 : Int))))⟩ :: ⟨_, true, .raw (.bool (decide (((gtD p0 y4).2) < (1 : Int))))⟩ :: ⟨_, (true && ((decide (((gtD p0 y4).2) < (1 : Int))) == false)), .raw (.int .i64 y4)⟩ :: ⟨_, (true && ((decide (((gtD p0 y4).2) < (1 : Int))) == false)), .raw (.bool (decide ((0 : Int) < y4)))⟩ :: ⟨_, (true && ((decide (((gtD p0 y4).2) < (1 : Int))) == false)), .raw (.bool (decide ((0 : Int) < y4)))⟩ :: ⟨_, ((true && ((decide (((gtD p0 y4).2) < (1 : Int))) == false)) && ((decide ((0 : Int) < y4)) == true)), .raw v0⟩ :: ⟨_, ((true && ((decide (((gtD p0 y4).2) < (1 : Int))) == false)) && ((decide ((0 : Int) < y4)) == true)), .raw (.int .i64 y4)⟩ :: ⟨_, ((true && ((decide (((gtD p0 y4).2) < (1 : Int))) == false)) && ((decide ((0 : Int) < y4)) == true)), .raw (.int .i64 (y4 - (1 : Int)))⟩ :: ⟨_, ((true && ((decide (((gtD p0 y4).2) < (1 : Int))) == false)) && ((decide ((0 : Int) < y4)) == true)), .qtr E_impl_TokenCount A (gtD p0 (y4 - (1 : Int)))⟩ :: ⟨_, ((true && ((decide (((gtD p0 y4).2) < (1 : Int))) == false)) && ((decide ((0 : Int) < y4)) == true)), .qtr eStr A ((gtD p0 (y4 - (1 : Int))).1)⟩ :: ⟨_, ((true && ((decide (((gtD p0 y4).2) < (1 : Int))) == false)) && ((decide ((0 : Int) < y4)) == true)), .rep eStr A ((gtD p0 (y4 - (1 : Int))).1)⟩ :: ⟨_, ((true && ((decide (((gtD p0 y4).2) < (1 : Int))) == false)) && ((decide ((0 : Int) < y4)) == true)), .raw (.pointer (some ⟨b4_6, 0, none⟩))⟩ :: ⟨_, ((true && ((decide (((gtD p0 y4).2) < (1 : Int))) == false)) && ((decide ((0 : Int) < y4)) == true)), .rep eStr A ((gtD p0 y4).1)⟩ :: ⟨_, ((true && ((decide (((gtD p0 y4).2) < (1 : Int))) == false)) && ((decide ((0 : Int) < y4)) == true)), .raw (.bool (!(bLt ((gtD p0 (y4 - (1 : Int))).1) ((gtD p0 y4).1))))⟩ :: ⟨_, (true && ((decide (((gtD p0 y4).2) < (1 : Int))) == false)), .raw (.bool x11)⟩ :: ⟨_, true, .raw (.bool x13)⟩ :: []) (tl := []) (by kernel_rfl) (by kernel_rfl) (by kernel_rfl) (by kernel_rfl) ?_ ?_
   ·exact
     Obls.p (fun R' w' hw hs hd => of_fieldAddr_raw ((hs 4 rfl).trans h4) ff_76_1 Try.sizeOf3 (by decide) rfl) <|
     Obls.p (fun R' w' hw hs hd => by have a0 : R' 12 = (.pointer (some ⟨b4_6, 1, none⟩)) := hd.g 0 rfl; exact OpF.int (of_load_box ((hO.fr hw).ok 0 _ rfl).1 a0 fl_impl_TokenCount_1 rfl Try.isAgg3 Try.sizeOf3)) <|
     Obls.p (fun R' w' hw hs hd => by have a0 : R' 13 = .int .i64 ((gtD p0 y4).2) := hd.g 0 rfl; exact of_lss a0 rfl) <|
     Obls.p (fun R' w' hw hs hd => by have a0 : R' 14 = .bool (decide (((gtD p0 y4).2) < (1 : Int))) := hd.g 0 rfl; exact of_move a0) <|
     Obls.cons (Obl.grd 3 false _ _ _ rfl rfl rfl rfl rfl (by kernel_rfl) fun hg R' w' hw hs hd => by have a0 : R' 3 = .int .i64 y4 := (hs 3 rfl).trans h3; exact of_move a0) <|
     Obls.cons (Obl.grd 3 false _ _ _ rfl rfl rfl rfl rfl (by kernel_rfl) fun hg R' w' hw hs hd => by have a0 : R' 16 = .int .i64 y4 := hd 0 _ _ _ rfl rfl rfl rfl hg; exact of_gtr a0 rfl) <|
     Obls.cons (Obl.grd 3 false _ _ _ rfl rfl rfl rfl rfl (by kernel_rfl) fun hg R' w' hw hs hd => by have a0 : R' 17 = .bool (decide ((0 : Int) < y4)) := hd 0 _ _ _ rfl rfl rfl rfl hg; exact of_move a0) <|
     Obls.cons (Obl.grd 6 true _ _ _ rfl rfl rfl rfl rfl (by kernel_rfl) fun hg R' w' hw hs hd => by have a0 : R' 0 = v0 := (hs 0 rfl).trans h0; exact of_move a0) <|
     Obls.cons (Obl.grd 6 true _ _ _ rfl rfl rfl rfl rfl (by kernel_rfl) fun hg R' w' hw hs hd => by have a0 : R' 3 = .int .i64 y4 := (hs 3 rfl).trans h3; exact of_move a0) <|
     Obls.cons (Obl.grd 6 true _ _ _ rfl rfl rfl rfl rfl (by kernel_rfl) fun hg R' w' hw hs hd => by have a0 : R' 20 = .int .i64 y4 := hd 0 _ _ _ rfl rfl rfl rfl hg; exact of_sub a0 rfl (gd e9 hg)) <|
     Obls.cons (Obl.grd 6 true _ _ _ rfl rfl rfl rfl rfl (by kernel_rfl) fun hg R' w' hw hs hd => by have a0 : R' 19 = v0 := hd 0 _ _ _ rfl rfl rfl rfl hg; have a1 : R' 21 = .int .i64 (y4 - (1 : Int)) := hd 1 _ _ _ rfl rfl rfl rfl hg; have ra0 := (f_v0.fr hw).eq a0; exact of_indexAddr ra0 a1 Try.underlying27 Try.sizeOf76 (gd e10 hg)) <|
     Obls.cons (Obl.grd 6 true _ _ _ rfl rfl rfl rfl rfl (by kernel_rfl) fun hg R' w' hw hs hd => by have a0 : QRep E_impl_TokenCount A w' (R' 22) (gtD p0 (y4 - (1 : Int))) := hd 0 _ _ _ rfl rfl rfl rfl hg; exact of_fieldAddr_q a0 ff_76_0 Try.sizeOf9 (by decide) fl_impl_TokenCount_0 rfl) <|
     Obls.cons (Obl.grd 6 true _ _ _ rfl rfl rfl rfl rfl (by kernel_rfl) fun hg R' w' hw hs hd => by have a0 : QRep eStr A w' (R' 23) ((gtD p0 (y4 - (1 : Int))).1) := hd 0 _ _ _ rfl rfl rfl rfl hg; exact (of_load a0.ptr Try.isAgg9 Try.sizeOf9)) <|
     Obls.cons (Obl.grd 6 true _ _ _ rfl rfl rfl rfl rfl (by kernel_rfl) fun hg R' w' hw hs hd => by have a0 : R' 4 = (.pointer (some ⟨b4_6, 0, none⟩)) := (hs 4 rfl).trans h4; exact of_fieldAddr_raw a0 ff_76_0 Try.sizeOf9 (by decide) rfl) <|
     Obls.cons (Obl.grd 6 true _ _ _ rfl rfl rfl rfl rfl (by kernel_rfl) fun hg R' w' hw hs hd => by have a0 : R' 25 = (.pointer (some ⟨b4_6, 0, none⟩)) := hd 0 _ _ _ rfl rfl rfl rfl hg; exact (of_load_box ((hO.fr hw).ok 0 _ rfl).1 a0 fl_impl_TokenCount_0 rfl Try.isAgg9 Try.sizeOf9)) <|
     Obls.cons (Obl.grd 6 true _ _ _ rfl rfl rfl rfl rfl (by kernel_rfl) fun hg R' w' hw hs hd => by have a0 : Rep eStr A w' (R' 24) ((gtD p0 (y4 - (1 : Int))).1) := hd 0 _ _ _ rfl rfl rfl rfl hg; have a1 : Rep eStr A w' (R' 26) ((gtD p0 y4).1) := hd 1 _ _ _ rfl rfl rfl rfl hg; exact of_sgeq a0 a1) <|
     Obls.cons (Obl.grd 3 false _ _ _ rfl rfl rfl rfl rfl (by kernel_rfl) fun hg R' w' hw hs hd => by have a0 : R' 18 = .bool (decide ((0 : Int) < y4)) := hd 0 _ _ _ rfl rfl rfl rfl hg; exact of_pick (decide ((0 : Int) < y4)) a0 (fun hc => by have a1 : R' 27 = .bool (!(bLt ((gtD p0 (y4 - (1 : Int))).1) ((gtD p0 y4).1))) := hd 1 _ _ _ rfl rfl rfl rfl (g_and hg (beq_of hc)); show _ = Value.bool x11; rw [q12, hc]; exact a1) (fun hc => by show _ = Value.bool x11; rw [q12, hc]; exact rfl)) <|
     Obls.p (fun R' w' hw hs hd => by have a0 : R' 15 = .bool (decide (((gtD p0 y4).2) < (1 : Int))) := hd.g 0 rfl; exact of_pick (decide (((gtD p0 y4).2) < (1 : Int))) a0 (fun hc => by show _ = Value.bool x13; rw [q14, hc]; exact rfl) (fun hc => by have a2 : R' 28 = .bool x11 := hd 1 _ _ _ rfl rfl rfl rfl (g_and rfl (beq_of hc)); show _ = Value.bool x13; rw [q14, hc]; exact a2)) <|
     Obls.nil
   intro R w hw hs hF'
   replace h0 := (hs 0 rfl).trans h0
   replace h5 := (hs 5 rfl).trans h5
   replace h6 := (hs 6 rfl).trans h6
   replace h7 := (hs 7 rfl).trans h7
   have h29 : R 29 = .bool x13 := hF' 17 _ _ rfl rfl rfl
   replace f_v0 := f_v0.fr hw
   replace hO := hO.fr hw
   replace hO : IniOK [] A w := hO.sub [] trivial
   replace hA := hA.fr hw.size
   replace hF := hF.trans hw
   clear hs hF' hw
   refine seqR_nil ?_
   refine HT.cond x13 h29 (fun c15 => ?_) (fun c15 => ?_)
   ·have hr := cnd_t c15 hr
    refine HT.seq ?_
    refine HT.text (l := ⟨_, true, .raw (.bool false)⟩ :: []) (tl := []) (by kernel_rfl) (by kernel_rfl) (by kernel_rfl) ?_ ?_
    ·exact
      Obls.p (fun R' w' hw hs hd => of_assign rfl) <|
      Obls.nil
    intro R w hw hs hF'
    have h2 : R 2 = .bool false := hF' 0 _ _ rfl rfl rfl
    replace hO := hO.fr hw
    replace hA := hA.fr hw.size
    replace hF := hF.trans hw
    clear hs hF' hw
    refine seqR_nil ?_
    refine HT.ret ?_
    obtain rfl := Option.some.inj hr
    have hr := hr0
    replace hr : some _ = some _ := hr
    obtain rfl := Option.some.inj hr
    exact ⟨.inr rfl, [R 2], ⟨rfl, trivial⟩, h2, hF⟩
   ·have hr := cnd_f c15 hr
    refine HT.skip ?_
    obtain ⟨e16, hr⟩ := ck_some hr
    refine HT.text (l := ⟨_, true, .raw (.int .i64 (y4 + (1 : Int)))⟩ :: ⟨_, true, .raw (.int .i64 (y4 + (1 : Int)))⟩ :: []) (tl := []) (by kernel_rfl) (by kernel_rfl) (by kernel_rfl) ?_ ?_
    ·exact
      Obls.p (fun R' w' hw hs hd => of_add ((hs 7 rfl).trans h7) rfl e16) <|
      Obls.p (fun R' w' hw hs hd => by have a0 : R' 30 = .int .i64 (y4 + (1 : Int)) := hd.g 0 rfl; exact of_move a0) <|
      Obls.nil
    intro R w hw hs hF'
    replace h0 := (hs 0 rfl).trans h0
    replace h5 := (hs 5 rfl).trans h5
    replace h6 := (hs 6 rfl).trans h6
    have h7 : R 7 = .int .i64 (y4 + (1 : Int)) := hF' 1 _ _ rfl rfl rfl
    replace f_v0 := f_v0.fr hw
    replace hO := hO.fr hw
    replace hA := hA.fr hw.size
    replace hF := hF.trans hw
    clear hs hF' hw
    refine seqR_nil ?_
    exact Exists.intro k (And.intro (Nat.lt_succ_self k) ⟨_, _, hr, hA, hF, hAA, hO, h0, h5, h6, h7, f_v0⟩)
  ·have hr := cnd_f c5 hr
   refine HT.exit ?_
   obtain rfl := Option.some.inj hr
   exact Exists.intro _ ⟨_, rfl, hA, hF, hAA, hO⟩
 rintro R w ⟨A, s3, rfl, hA, hF, hAA, hO⟩
 have hr := exM_go hr
 refine HT.seq ?_
 refine HT.text (l := ⟨_, true, .raw (.bool true)⟩ :: []) (tl := []) (by kernel_rfl) (by kernel_rfl) (by kernel_rfl) ?_ ?_
 ·exact
   Obls.p (fun R' w' hw hs hd => of_assign rfl) <|
   Obls.nil
 intro R w hw hs hF'
 have h2 : R 2 = .bool true := hF' 0 _ _ rfl rfl rfl
 replace hO := hO.fr hw
 replace hA := hA.fr hw.size
 replace hF := hF.trans hw
 clear hs hF' hw
 refine seqR_nil ?_
 refine HT.ret ?_
 obtain rfl := Option.some.inj hr
 exact ⟨.inr rfl, [R 2], ⟨rfl, trivial⟩, h2, hF⟩
def M_impl_within (fu : Nat) (p0 : Int) (p1 : Int) (p2 : Int) : Option Bool :=
 bd ((decide (p1 ≤ p0)) && (decide (p0 ≤ p2))) fun x1 =>
 some x1
theorem M_impl_within_ok {fu : Nat} {A : Av} {p0 : Int} {p1 : Int} {p2 : Int} {r : Bool} (hr : M_impl_within fu p0 p1 p2 = some r) {w : World} {v0 : Value} {v1 : Value} {v2 : Value} (hA : AvOK A w) (h0 : v0 = .int .i64 p0) (h1 : v1 = .int .i64 p1) (h2 : v2 = .int .i64 p2) :
  Calls Try.prog 114 #[v0, v1, v2] w fun e w' => ∃ v, e = .returned v ∧ (v = .bool r ∧ Fr w w') := by
 unfold M_impl_within at hr
 obtain ⟨w0, hw0⟩ : ∃ w0, w0 = w := ⟨_, rfl⟩
 have hF : Fr w0 w := hw0 ▸ Fr.refl _
 rw [show Fr w = Fr w0 from hw0 ▸ rfl]
 clear hw0
 refine calls_of_HT2 [.tmp 6] Try.func114 Try.ntmps114 (by decide) rfl rfl (Nat.le_of_ble_eq_true rfl) ?_
 intro R hR
 replace h0 : R 0 = .int .i64 p0 := (hR 0 _ rfl).trans h0
 replace h1 : R 1 = .int .i64 p1 := (hR 1 _ rfl).trans h1
 replace h2 : R 2 = .int .i64 p2 := (hR 2 _ rfl).trans h2
 clear hR
 refine HT.seq ?_
 refine HT.text (l := ⟨_, true, .raw (.bool false)⟩ :: []) (tl := []) (by kernel_rfl) (by kernel_rfl) (by kernel_rfl) ?_ ?_
 ·exact
   Obls.p (fun R' w' hw hs hd => of_assign rfl) <|
   Obls.nil
 intro R w hw hs hF'
 replace h0 := (hs 0 rfl).trans h0
 replace h1 := (hs 1 rfl).trans h1
 replace h2 := (hs 2 rfl).trans h2
 replace hA := hA.fr hw.size
 replace hF := hF.trans hw
 clear hs hF' hw
 refine seqR_nil ?_
 refine HT.seq ?_
 obtain ⟨x1, q2, hr⟩ := bd_some hr
 refine HT.text (l := ⟨_, true, .raw (.int .i64 p0)⟩ :: ⟨_, true, .raw (.int .i64 p1)⟩ :: ⟨_, true, .raw (.bool (decide (p1 ≤ p0)))⟩ :: ⟨_, true, .raw (.bool (decide (p1 ≤ p0)))⟩ :: ⟨_, (true && ((decide (p1 ≤ p0)) == true)), .raw (.int .i64 p0)⟩ :: ⟨_, (true && ((decide (p1 ≤ p0)) == true)), .raw (.int .i64 p2)⟩ :: ⟨_, (true && ((decide (p1 ≤ p0)) == true)), .raw (.bool (decide (p0 ≤ p2)))⟩ :: ⟨_, true, .raw (.bool x1)⟩ :: ⟨_, true, .raw (.bool x1)⟩ :: []) (tl := []) (by kernel_rfl) (by kernel_rfl) (by kernel_rfl) ?_ ?_
 ·exact
   Obls.p (fun R' w' hw hs hd => of_move ((hs 0 rfl).trans h0)) <|
   Obls.p (fun R' w' hw hs hd => of_move ((hs 1 rfl).trans h1)) <|
   Obls.p (fun R' w' hw hs hd => by have a0 : R' 7 = .int .i64 p0 := hd.g 0 rfl; have a1 : R' 8 = .int .i64 p1 := hd.g 1 rfl; exact of_geq a0 a1) <|
   Obls.p (fun R' w' hw hs hd => by have a0 : R' 9 = .bool (decide (p1 ≤ p0)) := hd.g 0 rfl; exact of_move a0) <|
   Obls.cons (Obl.grd 3 true _ _ _ rfl rfl rfl rfl rfl (by kernel_rfl) fun hg R' w' hw hs hd => by have a0 : R' 0 = .int .i64 p0 := (hs 0 rfl).trans h0; exact of_move a0) <|
   Obls.cons (Obl.grd 3 true _ _ _ rfl rfl rfl rfl rfl (by kernel_rfl) fun hg R' w' hw hs hd => by have a0 : R' 2 = .int .i64 p2 := (hs 2 rfl).trans h2; exact of_move a0) <|
   Obls.cons (Obl.grd 3 true _ _ _ rfl rfl rfl rfl rfl (by kernel_rfl) fun hg R' w' hw hs hd => by have a0 : R' 11 = .int .i64 p0 := hd 0 _ _ _ rfl rfl rfl rfl hg; have a1 : R' 12 = .int .i64 p2 := hd 1 _ _ _ rfl rfl rfl rfl hg; exact of_leq a0 a1) <|
   Obls.p (fun R' w' hw hs hd => by have a0 : R' 10 = .bool (decide (p1 ≤ p0)) := hd.g 0 rfl; exact of_pick (decide (p1 ≤ p0)) a0 (fun hc => by have a1 : R' 13 = .bool (decide (p0 ≤ p2)) := hd 1 _ _ _ rfl rfl rfl rfl (g_and rfl (beq_of hc)); show _ = Value.bool x1; rw [q2, hc]; exact a1) (fun hc => by show _ = Value.bool x1; rw [q2, hc]; exact rfl)) <|
   Obls.p (fun R' w' hw hs hd => by have a0 : R' 14 = .bool x1 := hd.g 0 rfl; exact of_assign a0) <|
   Obls.nil
 intro R w hw hs hF'
 have h6 : R 6 = .bool x1 := hF' 8 _ _ rfl rfl rfl
 replace hA := hA.fr hw.size
 replace hF := hF.trans hw
 clear hs hF' hw
 refine seqR_nil ?_
 refine HT.ret ?_
 obtain rfl := Option.some.inj hr
 exact ⟨.inr rfl, [R 6], ⟨rfl, trivial⟩, h6, hF⟩
def M_impl_isThreshold (fu : Nat) (p0 : Int) : Option Bool :=
 cl true (M_impl_within fu p0 (1 : Int) (1000 : Int)) fun x1 =>
 some x1
theorem M_impl_isThreshold_ok {fu : Nat} {A : Av} {p0 : Int} {r : Bool} (hr : M_impl_isThreshold fu p0 = some r) {w : World} {v0 : Value} (hA : AvOK A w) (h0 : v0 = .int .i64 p0) :
  Calls Try.prog 83 #[v0] w fun e w' => ∃ v, e = .returned v ∧ (v = .bool r ∧ Fr w w') := by
 unfold M_impl_isThreshold at hr
 obtain ⟨w0, hw0⟩ : ∃ w0, w0 = w := ⟨_, rfl⟩
 have hF : Fr w0 w := hw0 ▸ Fr.refl _
 rw [show Fr w = Fr w0 from hw0 ▸ rfl]
 clear hw0
 refine calls_of_HT2 [.tmp 2] Try.func83 Try.ntmps83 (by decide) rfl rfl (Nat.le_of_ble_eq_true rfl) ?_
 intro R hR
 replace h0 : R 0 = .int .i64 p0 := (hR 0 _ rfl).trans h0
 clear hR
 refine HT.seq ?_
 refine HT.text (l := ⟨_, true, .raw (.bool false)⟩ :: []) (tl := []) (by kernel_rfl) (by kernel_rfl) (by kernel_rfl) ?_ ?_
 ·exact
   Obls.p (fun R' w' hw hs hd => of_assign rfl) <|
   Obls.nil
 intro R w hw hs hF'
 replace h0 := (hs 0 rfl).trans h0
 replace hA := hA.fr hw.size
 replace hF := hF.trans hw
 clear hs hF' hw
 refine seqR_nil ?_
 refine HT.seq ?_
 obtain ⟨x1, q2, hr⟩ := cl_some hr
 refine HT.text (l := ⟨_, true, .raw (.int .i64 p0)⟩ :: ⟨_, true, .raw (.bool x1)⟩ :: ⟨_, true, .raw (.bool x1)⟩ :: []) (tl := []) (by kernel_rfl) (by kernel_rfl) (by kernel_rfl) ?_ ?_
 ·exact
   Obls.p (fun R' w' hw hs hd => of_move ((hs 0 rfl).trans h0)) <|
   Obls.p (fun R' w' hw hs hd => by have a0 : R' 3 = .int .i64 p0 := hd.g 0 rfl; exact of_call Try.call114 (M_impl_within_ok (q2 rfl) (hA.fr hw.size) a0 rfl rfl)) <|
   Obls.p (fun R' w' hw hs hd => by have a0 : R' 4 = .bool x1 := hd.g 0 rfl; exact of_assign a0) <|
   Obls.nil
 intro R w hw hs hF'
 have h2 : R 2 = .bool x1 := hF' 2 _ _ rfl rfl rfl
 replace hA := hA.fr hw.size
 replace hF := hF.trans hw
 clear hs hF' hw
 refine seqR_nil ?_
 refine HT.ret ?_
 obtain rfl := Option.some.inj hr
 exact ⟨.inr rfl, [R 2], ⟨rfl, trivial⟩, h2, hF⟩
def M_impl_isSetID (fu : Nat) (p0 : Int) : Option Bool :=
 cl true (M_impl_within fu p0 (0 : Int) (999 : Int)) fun x1 =>
 some x1
theorem M_impl_isSetID_ok {fu : Nat} {A : Av} {p0 : Int} {r : Bool} (hr : M_impl_isSetID fu p0 = some r) {w : World} {v0 : Value} (hA : AvOK A w) (h0 : v0 = .int .i64 p0) :
  Calls Try.prog 84 #[v0] w fun e w' => ∃ v, e = .returned v ∧ (v = .bool r ∧ Fr w w') := by
 unfold M_impl_isSetID at hr
 obtain ⟨w0, hw0⟩ : ∃ w0, w0 = w := ⟨_, rfl⟩
 have hF : Fr w0 w := hw0 ▸ Fr.refl _
 rw [show Fr w = Fr w0 from hw0 ▸ rfl]
 clear hw0
 refine calls_of_HT2 [.tmp 2] Try.func84 Try.ntmps84 (by decide) rfl rfl (Nat.le_of_ble_eq_true rfl) ?_
 intro R hR
 replace h0 : R 0 = .int .i64 p0 := (hR 0 _ rfl).trans h0
 clear hR
 refine HT.seq ?_
 refine HT.text (l := ⟨_, true, .raw (.bool false)⟩ :: []) (tl := []) (by kernel_rfl) (by kernel_rfl) (by kernel_rfl) ?_ ?_
 ·exact
   Obls.p (fun R' w' hw hs hd => of_assign rfl) <|
   Obls.nil
 intro R w hw hs hF'
 replace h0 := (hs 0 rfl).trans h0
 replace hA := hA.fr hw.size
 replace hF := hF.trans hw
 clear hs hF' hw
 refine seqR_nil ?_
 refine HT.seq ?_
 obtain ⟨x1, q2, hr⟩ := cl_some hr
 refine HT.text (l := ⟨_, true, .raw (.int .i64 p0)⟩ :: ⟨_, true, .raw (.bool x1)⟩ :: ⟨_, true, .raw (.bool x1)⟩ :: []) (tl := []) (by kernel_rfl) (by kernel_rfl) (by kernel_rfl) ?_ ?_
 ·exact
   Obls.p (fun R' w' hw hs hd => of_move ((hs 0 rfl).trans h0)) <|
   Obls.p (fun R' w' hw hs hd => by have a0 : R' 3 = .int .i64 p0 := hd.g 0 rfl; exact of_call Try.call114 (M_impl_within_ok (q2 rfl) (hA.fr hw.size) a0 rfl rfl)) <|
   Obls.p (fun R' w' hw hs hd => by have a0 : R' 4 = .bool x1 := hd.g 0 rfl; exact of_assign a0) <|
   Obls.nil
 intro R w hw hs hF'
 have h2 : R 2 = .bool x1 := hF' 2 _ _ rfl rfl rfl
 replace hA := hA.fr hw.size
 replace hF := hF.trans hw
 clear hs hF' hw
 refine seqR_nil ?_
 refine HT.ret ?_
 obtain rfl := Option.some.inj hr
 exact ⟨.inr rfl, [R 2], ⟨rfl, trivial⟩, h2, hF⟩
def M_impl_isSmall (fu : Nat) (p0 : Int) : Option Bool :=
 bd ((decide ((97 : Int) ≤ p0)) && (decide (p0 ≤ (122 : Int)))) fun x1 =>
 some x1
theorem M_impl_isSmall_ok {fu : Nat} {A : Av} {p0 : Int} {r : Bool} (hr : M_impl_isSmall fu p0 = some r) {w : World} {v0 : Value} (hA : AvOK A w) (h0 : v0 = .int .u8 p0) :
  Calls Try.prog 150 #[v0] w fun e w' => ∃ v, e = .returned v ∧ (v = .bool r ∧ Fr w w') := by
 unfold M_impl_isSmall at hr
 obtain ⟨w0, hw0⟩ : ∃ w0, w0 = w := ⟨_, rfl⟩
 have hF : Fr w0 w := hw0 ▸ Fr.refl _
 rw [show Fr w = Fr w0 from hw0 ▸ rfl]
 clear hw0
 refine calls_of_HT2 [.tmp 2] Try.func150 Try.ntmps150 (by decide) rfl rfl (Nat.le_of_ble_eq_true rfl) ?_
 intro R hR
 replace h0 : R 0 = .int .u8 p0 := (hR 0 _ rfl).trans h0
 clear hR
 refine HT.seq ?_
 refine HT.text (l := ⟨_, true, .raw (.bool false)⟩ :: []) (tl := []) (by kernel_rfl) (by kernel_rfl) (by kernel_rfl) ?_ ?_
 ·exact
   Obls.p (fun R' w' hw hs hd => of_assign rfl) <|
   Obls.nil
 intro R w hw hs hF'
 replace h0 := (hs 0 rfl).trans h0
 replace hA := hA.fr hw.size
 replace hF := hF.trans hw
 clear hs hF' hw
 refine seqR_nil ?_
 refine HT.seq ?_
 obtain ⟨x1, q2, hr⟩ := bd_some hr
 refine HT.text (l := ⟨_, true, .raw (.int .u8 p0)⟩ :: ⟨_, true, .raw (.bool (decide ((97 : Int) ≤ p0)))⟩ :: ⟨_, true, .raw (.bool (decide ((97 : Int) ≤ p0)))⟩ :: ⟨_, (true && ((decide ((97 : Int) ≤ p0)) == true)), .raw (.int .u8 p0)⟩ :: ⟨_, (true && ((decide ((97 : Int) ≤ p0)) == true)), .raw (.bool (decide (p0 ≤ (122 : Int))))⟩ :: ⟨_, true, .raw (.bool x1)⟩ :: ⟨_, true, .raw (.bool x1)⟩ :: []) (tl := []) (by kernel_rfl) (by kernel_rfl) (by kernel_rfl) ?_ ?_
 ·exact
   Obls.p (fun R' w' hw hs hd => of_move ((hs 0 rfl).trans h0)) <|
   Obls.p (fun R' w' hw hs hd => by have a0 : R' 3 = .int .u8 p0 := hd.g 0 rfl; exact of_geq a0 rfl) <|
   Obls.p (fun R' w' hw hs hd => by have a0 : R' 4 = .bool (decide ((97 : Int) ≤ p0)) := hd.g 0 rfl; exact of_move a0) <|
   Obls.cons (Obl.grd 2 true _ _ _ rfl rfl rfl rfl rfl (by kernel_rfl) fun hg R' w' hw hs hd => by have a0 : R' 0 = .int .u8 p0 := (hs 0 rfl).trans h0; exact of_move a0) <|
   Obls.cons (Obl.grd 2 true _ _ _ rfl rfl rfl rfl rfl (by kernel_rfl) fun hg R' w' hw hs hd => by have a0 : R' 6 = .int .u8 p0 := hd 0 _ _ _ rfl rfl rfl rfl hg; exact of_leq a0 rfl) <|
   Obls.p (fun R' w' hw hs hd => by have a0 : R' 5 = .bool (decide ((97 : Int) ≤ p0)) := hd.g 0 rfl; exact of_pick (decide ((97 : Int) ≤ p0)) a0 (fun hc => by have a1 : R' 7 = .bool (decide (p0 ≤ (122 : Int))) := hd 1 _ _ _ rfl rfl rfl rfl (g_and rfl (beq_of hc)); show _ = Value.bool x1; rw [q2, hc]; exact a1) (fun hc => by show _ = Value.bool x1; rw [q2, hc]; exact rfl)) <|
   Obls.p (fun R' w' hw hs hd => by have a0 : R' 8 = .bool x1 := hd.g 0 rfl; exact of_assign a0) <|
   Obls.nil
 intro R w hw hs hF'
 have h2 : R 2 = .bool x1 := hF' 6 _ _ rfl rfl rfl
 replace hA := hA.fr hw.size
 replace hF := hF.trans hw
 clear hs hF' hw
 refine seqR_nil ?_
 refine HT.ret ?_
 obtain rfl := Option.some.inj hr
 exact ⟨.inr rfl, [R 2], ⟨rfl, trivial⟩, h2, hF⟩
def M_impl_isDigit (fu : Nat) (p0 : Int) : Option Bool :=
 bd ((decide ((48 : Int) ≤ p0)) && (decide (p0 ≤ (57 : Int)))) fun x1 =>
 some x1
theorem M_impl_isDigit_ok {fu : Nat} {A : Av} {p0 : Int} {r : Bool} (hr : M_impl_isDigit fu p0 = some r) {w : World} {v0 : Value} (hA : AvOK A w) (h0 : v0 = .int .u8 p0) :
  Calls Try.prog 151 #[v0] w fun e w' => ∃ v, e = .returned v ∧ (v = .bool r ∧ Fr w w') := by
 unfold M_impl_isDigit at hr
 obtain ⟨w0, hw0⟩ : ∃ w0, w0 = w := ⟨_, rfl⟩
 have hF : Fr w0 w := hw0 ▸ Fr.refl _
 rw [show Fr w = Fr w0 from hw0 ▸ rfl]
 clear hw0
 refine calls_of_HT2 [.tmp 2] Try.func151 Try.ntmps151 (by decide) rfl rfl (Nat.le_of_ble_eq_true rfl) ?_
 intro R hR
 replace h0 : R 0 = .int .u8 p0 := (hR 0 _ rfl).trans h0
 clear hR
 refine HT.seq ?_
 refine HT.text (l := ⟨_, true, .raw (.bool false)⟩ :: []) (tl := []) (by kernel_rfl) (by kernel_rfl) (by kernel_rfl) ?_ ?_
 ·exact
   Obls.p (fun R' w' hw hs hd => of_assign rfl) <|
   Obls.nil
 intro R w hw hs hF'
 replace h0 := (hs 0 rfl).trans h0
 replace hA := hA.fr hw.size
 replace hF := hF.trans hw
 clear hs hF' hw
 refine seqR_nil ?_
 refine HT.seq ?_
 obtain ⟨x1, q2, hr⟩ := bd_some hr
 refine HT.text (l := ⟨_, true, .raw (.int .u8 p0)⟩ :: ⟨_, true, .raw (.bool (decide ((48 : Int) ≤ p0)))⟩ :: ⟨_, true, .raw (.bool (decide ((48 : Int) ≤ p0)))⟩ :: ⟨_, (true && ((decide ((48 : Int) ≤ p0)) == true)), .raw (.int .u8 p0)⟩ :: ⟨_, (true && ((decide ((48 : Int) ≤ p0)) == true)), .raw (.bool (decide (p0 ≤ (57 : Int))))⟩ :: ⟨_, true, .raw (.bool x1)⟩ :: ⟨_, true, .raw (.bool x1)⟩ :: []) (tl := []) (by kernel_rfl) (by kernel_rfl) (by kernel_rfl) ?_ ?_
 ·exact
   Obls.p (fun R' w' hw hs hd => of_move ((hs 0 rfl).trans h0)) <|
   Obls.p (fun R' w' hw hs hd => by have a0 : R' 3 = .int .u8 p0 := hd.g 0 rfl; exact of_geq a0 rfl) <|
   Obls.p (fun R' w' hw hs hd => by have a0 : R' 4 = .bool (decide ((48 : Int) ≤ p0)) := hd.g 0 rfl; exact of_move a0) <|
   Obls.cons (Obl.grd 2 true _ _ _ rfl rfl rfl rfl rfl (by kernel_rfl) fun hg R' w' hw hs hd => by have a0 : R' 0 = .int .u8 p0 := (hs 0 rfl).trans h0; exact of_move a0) <|
   Obls.cons (Obl.grd 2 true _ _ _ rfl rfl rfl rfl rfl (by kernel_rfl) fun hg R' w' hw hs hd => by have a0 : R' 6 = .int .u8 p0 := hd 0 _ _ _ rfl rfl rfl rfl hg; exact of_leq a0 rfl) <|
   Obls.p (fun R' w' hw hs hd => by have a0 : R' 5 = .bool (decide ((48 : Int) ≤ p0)) := hd.g 0 rfl; exact of_pick (decide ((48 : Int) ≤ p0)) a0 (fun hc => by have a1 : R' 7 = .bool (decide (p0 ≤ (57 : Int))) := hd 1 _ _ _ rfl rfl rfl rfl (g_and rfl (beq_of hc)); show _ = Value.bool x1; rw [q2, hc]; exact a1) (fun hc => by show _ = Value.bool x1; rw [q2, hc]; exact rfl)) <|
   Obls.p (fun R' w' hw hs hd => by have a0 : R' 8 = .bool x1 := hd.g 0 rfl; exact of_assign a0) <|
   Obls.nil
 intro R w hw hs hF'
 have h2 : R 2 = .bool x1 := hF' 6 _ _ rfl rfl rfl
 replace hA := hA.fr hw.size
 replace hF := hF.trans hw
 clear hs hF' hw
 refine seqR_nil ?_
 refine HT.ret ?_
 obtain rfl := Option.some.inj hr
 exact ⟨.inr rfl, [R 2], ⟨rfl, trivial⟩, h2, hF⟩
def M_impl_isAlphanumeric_L0 (fu : Nat) (p0 : List UInt8) : Nat → Int → Option (Ex Bool Unit)
 | 0, _ => none
 | k + 1, y4 =>
  bif (decide (y4 < (p0.length : Int))) then (
   ck (inR y4 p0.length) <|
   cl true (M_impl_isSmall fu (bAt p0 y4)) fun x7 =>
   ck (!(true && ((!x7) == true)) || inR y4 p0.length) <|
   cl (true && ((!x7) == true)) (M_impl_isDigit fu (bAt p0 y4)) fun x10 =>
   bd ((!x7) && (!x10)) fun x12 =>
   bif x12 then (
    some (Ex.ret false)
   ) else (
    ck (i64B (y4 + (1 : Int))) <|
    M_impl_isAlphanumeric_L0 fu p0 k (y4 + (1 : Int))
   )
  ) else (
   some (Ex.go ())
  )
def M_impl_isAlphanumeric (fu : Nat) (p0 : List UInt8) : Option Bool :=
 cl true (M_impl_isAlphanumeric_L0 fu p0 fu (0 : Int)) fun rl1 =>
 exM rl1 (fun r => some r) fun s3 =>
 some true
theorem M_impl_isAlphanumeric_ok {fu : Nat} {A : Av} {p0 : List UInt8} {r : Bool} (hr : M_impl_isAlphanumeric fu p0 = some r) {w : World} {v0 : Value} (hA : AvOK A w) (h0 : Rep eStr A w v0 p0) :
  Calls Try.prog 111 #[v0] w fun e w' => ∃ v, e = .returned v ∧ (v = .bool r ∧ Fr w w') := by
 unfold M_impl_isAlphanumeric at hr
 obtain ⟨w0, hw0⟩ : ∃ w0, w0 = w := ⟨_, rfl⟩
 have hF : Fr w0 w := hw0 ▸ Fr.refl _
 rw [show Fr w = Fr w0 from hw0 ▸ rfl]
 clear hw0
 refine calls_of_HT2 [.tmp 2] Try.func111 Try.ntmps111 (by decide) rfl rfl (Nat.le_of_ble_eq_true rfl) ?_
 intro R hR
 have f_v0 := h0
 replace h0 : R 0 = v0 := hR 0 _ rfl
 clear hR
 refine HT.seq ?_
 refine HT.text (l := ⟨_, true, .raw (.bool false)⟩ :: []) (tl := []) (by kernel_rfl) (by kernel_rfl) (by kernel_rfl) ?_ ?_
 ·exact
   Obls.p (fun R' w' hw hs hd => of_assign rfl) <|
   Obls.nil
 intro R w hw hs hF'
 replace h0 := (hs 0 rfl).trans h0
 replace f_v0 := f_v0.fr hw
 replace hA := hA.fr hw.size
 replace hF := hF.trans hw
 clear hs hF' hw
 refine seqR_nil ?_
 refine HT.seq ?_
 refine HT.seq ?_
 refine HT.text (l := ⟨_, true, .raw v0⟩ :: ⟨_, true, .raw (.int .i64 (p0.length : Int))⟩ :: ⟨_, true, .raw (.int .i64 (0 : Int))⟩ :: []) (tl := []) (by kernel_rfl) (by kernel_rfl) (by kernel_rfl) ?_ ?_
 ·exact
   Obls.p (fun R' w' hw hs hd => of_move ((hs 0 rfl).trans h0)) <|
   Obls.p (fun R' w' hw hs hd => by have a0 : R' 4 = v0 := hd.g 0 rfl; have ra0 := (f_v0.fr hw).eq a0; exact of_len_str ra0 Try.underlying9) <|
   Obls.p (fun R' w' hw hs hd => of_move rfl) <|
   Obls.nil
 intro R w hw hs hF'
 replace h0 := (hs 0 rfl).trans h0
 have h5 : R 5 = .int .i64 (p0.length : Int) := hF' 1 _ _ rfl rfl rfl
 have h6 : R 6 = .int .i64 (0 : Int) := hF' 2 _ _ rfl rfl rfl
 replace f_v0 := f_v0.fr hw
 replace hA := hA.fr hw.size
 replace hF := hF.trans hw
 clear hs hF' hw
 refine seqR_nil ?_
 obtain ⟨rl1, q2, hr⟩ := cl_some hr
 replace q2 := q2 rfl
 refine HT.cut0 (fun R w => ∃ (s3 : Unit), rl1 = Ex.go s3 ∧ AvOK A w ∧ Fr w0 w) ?_ ?_
 ·refine HT.block ?_
  refine HT.loop (fun k R w => ∃ (y4 : Int), M_impl_isAlphanumeric_L0 fu p0 k y4 = some rl1 ∧ AvOK A w ∧ Fr w0 w ∧ R 0 = v0 ∧ R 5 = .int .i64 (p0.length : Int) ∧ R 6 = .int .i64 y4 ∧ Rep eStr A w v0 p0) fu ⟨_, q2, hA, hF, h0, h5, h6, f_v0⟩ ?_
  have hr0 := hr; clear hr q2
  rintro k R w ⟨y4, hr, hA, hF, h0, h5, h6, f_v0⟩
  rcases k with _ | k
  ·cases (show none = some _ from hr)
  rw [M_impl_isAlphanumeric_L0] at hr
  refine HT.seq ?_
  refine HT.text (l := ⟨_, true, .raw (.bool (decide (y4 < (p0.length : Int))))⟩ :: []) (tl := []) (by kernel_rfl) (by kernel_rfl) (by kernel_rfl) ?_ ?_
  ·exact
    Obls.p (fun R' w' hw hs hd => of_lss ((hs 6 rfl).trans h6) ((hs 5 rfl).trans h5)) <|
    Obls.nil
  intro R w hw hs hF'
  replace h0 := (hs 0 rfl).trans h0
  replace h5 := (hs 5 rfl).trans h5
  replace h6 := (hs 6 rfl).trans h6
  have h7 : R 7 = .bool (decide (y4 < (p0.length : Int))) := hF' 0 _ _ rfl rfl rfl
  replace f_v0 := f_v0.fr hw
  replace hA := hA.fr hw.size
  replace hF := hF.trans hw
  clear hs hF' hw
  refine seqR_nil ?_
  refine HT.seq ?_
  refine HT.cond (decide (y4 < (p0.length : Int))) h7 (fun c5 => ?_) (fun c5 => ?_)
  ·have hr := cnd_t c5 hr
   refine HT.skip ?_
   refine HT.seq ?_
   refine HT.block ?_
   refine HT.seq ?_
   refine HT.text (l := ⟨_, true, .raw (.int .i64 y4)⟩ :: ⟨_, true, .raw (.int .i64 y4)⟩ :: []) (tl := []) (by kernel_rfl) (by kernel_rfl) (by kernel_rfl) ?_ ?_
   ·exact
     Obls.p (fun R' w' hw hs hd => of_move ((hs 6 rfl).trans h6)) <|
     Obls.p (fun R' w' hw hs hd => by have a0 : R' 8 = .int .i64 y4 := hd.g 0 rfl; exact of_assign a0) <|
     Obls.nil
   intro R w hw hs hF'
   replace h0 := (hs 0 rfl).trans h0
   replace h5 := (hs 5 rfl).trans h5
   replace h6 := (hs 6 rfl).trans h6
   have h3 : R 3 = .int .i64 y4 := hF' 1 _ _ rfl rfl rfl
   replace f_v0 := f_v0.fr hw
   replace hA := hA.fr hw.size
   replace hF := hF.trans hw
   clear hs hF' hw
   refine seqR_nil ?_
   refine HT.seq ?_
   obtain ⟨e6, hr⟩ := ck_some hr
   obtain ⟨x7, q8, hr⟩ := cl_some hr
   obtain ⟨e9, hr⟩ := ck_some hr
   obtain ⟨x10, q11, hr⟩ := cl_some hr
   obtain ⟨x12, q13, hr⟩ := bd_some hr
   refine HT.text (l := ⟨_, true, .raw v0⟩ :: ⟨_, true, .raw (.int .i64 y4)⟩ :: ⟨_, true, .raw (.int .u8 (bAt p0 y4))⟩ :: ⟨_, true, .raw (.bool x7)⟩ :: ⟨_, true, .raw (.bool (!x7))⟩ :: ⟨_, true, .raw (.bool (!x7))⟩ :: ⟨_, (true && ((!x7) == true)), .raw v0⟩ :: ⟨_, (true && ((!x7) == true)), .raw (.int .i64 y4)⟩ :: ⟨_, (true && ((!x7) == true)), .raw (.int .u8 (bAt p0 y4))⟩ :: ⟨_, (true && ((!x7) == true)), .raw (.bool x10)⟩ :: ⟨_, (true && ((!x7) == true)), .raw (.bool (!x10))⟩ :: ⟨_, true, .raw (.bool x12)⟩ :: []) (tl := []) (by kernel_rfl) (by kernel_rfl) (by kernel_rfl) ?_ ?_
   ·exact
     Obls.p (fun R' w' hw hs hd => of_move ((hs 0 rfl).trans h0)) <|
     Obls.p (fun R' w' hw hs hd => of_move ((hs 3 rfl).trans h3)) <|
     Obls.p (fun R' w' hw hs hd => by have a0 : R' 9 = v0 := hd.g 0 rfl; have ra0 := (f_v0.fr hw).eq a0; have a1 : R' 10 = .int .i64 y4 := hd.g 1 rfl; exact of_strIndex ra0 a1 Try.underlying9 e6) <|
     Obls.p (fun R' w' hw hs hd => by have a0 : R' 11 = .int .u8 (bAt p0 y4) := hd.g 0 rfl; exact of_call Try.call150 (M_impl_isSmall_ok (q8 rfl) (hA.fr hw.size) a0)) <|
     Obls.p (fun R' w' hw hs hd => by have a0 : R' 12 = .bool x7 := hd.g 0 rfl; exact of_not a0) <|
     Obls.p (fun R' w' hw hs hd => by have a0 : R' 13 = .bool (!x7) := hd.g 0 rfl; exact of_move a0) <|
     Obls.cons (Obl.grd 5 true _ _ _ rfl rfl rfl rfl rfl (by kernel_rfl) fun hg R' w' hw hs hd => by have a0 : R' 0 = v0 := (hs 0 rfl).trans h0; exact of_move a0) <|
     Obls.cons (Obl.grd 5 true _ _ _ rfl rfl rfl rfl rfl (by kernel_rfl) fun hg R' w' hw hs hd => by have a0 : R' 3 = .int .i64 y4 := (hs 3 rfl).trans h3; exact of_move a0) <|
     Obls.cons (Obl.grd 5 true _ _ _ rfl rfl rfl rfl rfl (by kernel_rfl) fun hg R' w' hw hs hd => by have a0 : R' 15 = v0 := hd 0 _ _ _ rfl rfl rfl rfl hg; have ra0 := (f_v0.fr hw).eq a0; have a1 : R' 16 = .int .i64 y4 := hd 1 _ _ _ rfl rfl rfl rfl hg; exact of_strIndex ra0 a1 Try.underlying9 (gd e9 hg)) <|
     Obls.cons (Obl.grd 5 true _ _ _ rfl rfl rfl rfl rfl (by kernel_rfl) fun hg R' w' hw hs hd => by have a0 : R' 17 = .int .u8 (bAt p0 y4) := hd 0 _ _ _ rfl rfl rfl rfl hg; exact of_call Try.call151 (M_impl_isDigit_ok (q11 hg) (hA.fr hw.size) a0)) <|
     Obls.cons (Obl.grd 5 true _ _ _ rfl rfl rfl rfl rfl (by kernel_rfl) fun hg R' w' hw hs hd => by have a0 : R' 18 = .bool x10 := hd 0 _ _ _ rfl rfl rfl rfl hg; exact of_not a0) <|
     Obls.p (fun R' w' hw hs hd => by have a0 : R' 14 = .bool (!x7) := hd.g 0 rfl; exact of_pick (!x7) a0 (fun hc => by have a1 : R' 19 = .bool (!x10) := hd 1 _ _ _ rfl rfl rfl rfl (g_and rfl (beq_of hc)); show _ = Value.bool x12; rw [q13, hc]; exact a1) (fun hc => by show _ = Value.bool x12; rw [q13, hc]; exact rfl)) <|
     Obls.nil
   intro R w hw hs hF'
   replace h0 := (hs 0 rfl).trans h0
   replace h5 := (hs 5 rfl).trans h5
   replace h6 := (hs 6 rfl).trans h6
   have h20 : R 20 = .bool x12 := hF' 11 _ _ rfl rfl rfl
   replace f_v0 := f_v0.fr hw
   replace hA := hA.fr hw.size
   replace hF := hF.trans hw
   clear hs hF' hw
   refine seqR_nil ?_
   refine HT.cond x12 h20 (fun c14 => ?_) (fun c14 => ?_)
   ·have hr := cnd_t c14 hr
    refine HT.seq ?_
    refine HT.text (l := ⟨_, true, .raw (.bool false)⟩ :: []) (tl := []) (by kernel_rfl) (by kernel_rfl) (by kernel_rfl) ?_ ?_
    ·exact
      Obls.p (fun R' w' hw hs hd => of_assign rfl) <|
      Obls.nil
    intro R w hw hs hF'
    have h2 : R 2 = .bool false := hF' 0 _ _ rfl rfl rfl
    replace hA := hA.fr hw.size
    replace hF := hF.trans hw
    clear hs hF' hw
    refine seqR_nil ?_
    refine HT.ret ?_
    obtain rfl := Option.some.inj hr
    have hr := hr0
    replace hr : some _ = some _ := hr
    obtain rfl := Option.some.inj hr
    exact ⟨.inr rfl, [R 2], ⟨rfl, trivial⟩, h2, hF⟩
   ·have hr := cnd_f c14 hr
    refine HT.skip ?_
    obtain ⟨e15, hr⟩ := ck_some hr
    refine HT.text (l := ⟨_, true, .raw (.int .i64 (y4 + (1 : Int)))⟩ :: ⟨_, true, .raw (.int .i64 (y4 + (1 : Int)))⟩ :: []) (tl := []) (by kernel_rfl) (by kernel_rfl) (by kernel_rfl) ?_ ?_
    ·exact
      Obls.p (fun R' w' hw hs hd => of_add ((hs 6 rfl).trans h6) rfl e15) <|
      Obls.p (fun R' w' hw hs hd => by have a0 : R' 21 = .int .i64 (y4 + (1 : Int)) := hd.g 0 rfl; exact of_move a0) <|
      Obls.nil
    intro R w hw hs hF'
    replace h0 := (hs 0 rfl).trans h0
    replace h5 := (hs 5 rfl).trans h5
    have h6 : R 6 = .int .i64 (y4 + (1 : Int)) := hF' 1 _ _ rfl rfl rfl
    replace f_v0 := f_v0.fr hw
    replace hA := hA.fr hw.size
    replace hF := hF.trans hw
    clear hs hF' hw
    refine seqR_nil ?_
    exact Exists.intro k (And.intro (Nat.lt_succ_self k) ⟨_, hr, hA, hF, h0, h5, h6, f_v0⟩)
  ·have hr := cnd_f c5 hr
   refine HT.exit ?_
   obtain rfl := Option.some.inj hr
   exact Exists.intro _ ⟨rfl, hA, hF⟩
 rintro R w ⟨s3, rfl, hA, hF⟩
 have hr := exM_go hr
 refine HT.seq ?_
 refine HT.text (l := ⟨_, true, .raw (.bool true)⟩ :: []) (tl := []) (by kernel_rfl) (by kernel_rfl) (by kernel_rfl) ?_ ?_
 ·exact
   Obls.p (fun R' w' hw hs hd => of_assign rfl) <|
   Obls.nil
 intro R w hw hs hF'
 have h2 : R 2 = .bool true := hF' 0 _ _ rfl rfl rfl
 replace hA := hA.fr hw.size
 replace hF := hF.trans hw
 clear hs hF' hw
 refine seqR_nil ?_
 refine HT.ret ?_
 obtain rfl := Option.some.inj hr
 exact ⟨.inr rfl, [R 2], ⟨rfl, trivial⟩, h2, hF⟩
def M_impl_IsTokenSet_L0 (fu : Nat) (p0 : List (List UInt8)) : Nat → Int → Option (Ex Bool Unit)
 | 0, _ => none
 | k + 1, y4 =>
  bif (decide (y4 < (p0.length : Int))) then (
   ck (inR y4 p0.length) <|
   cl (true && (((gtD p0 y4) == ([] : List UInt8)) == false)) (M_impl_isAlphanumeric fu (gtD p0 y4)) fun x8 =>
   bd (((gtD p0 y4) == ([] : List UInt8)) || (!x8)) fun x10 =>
   ck (!((true && (x10 == false)) && ((decide ((0 : Int) < y4)) == true)) || i64B (y4 - (1 : Int))) <|
   ck (!((true && (x10 == false)) && ((decide ((0 : Int) < y4)) == true)) || inR (y4 - (1 : Int)) p0.length) <|
   bd ((decide ((0 : Int) < y4)) && (!(bLt (gtD p0 (y4 - (1 : Int))) (gtD p0 y4)))) fun x14 =>
   bd (x10 || x14) fun x16 =>
   bif x16 then (
    some (Ex.ret false)
   ) else (
    ck (i64B (y4 + (1 : Int))) <|
    M_impl_IsTokenSet_L0 fu p0 k (y4 + (1 : Int))
   )
  ) else (
   some (Ex.go ())
  )
def M_impl_IsTokenSet (fu : Nat) (p0 : List (List UInt8)) : Option Bool :=
 cl true (M_impl_IsTokenSet_L0 fu p0 fu (0 : Int)) fun rl1 =>
 exM rl1 (fun r => some r) fun s3 =>
 some true
theorem M_impl_IsTokenSet_ok {fu : Nat} {A : Av} {p0 : List (List UInt8)} {r : Bool} (hr : M_impl_IsTokenSet fu p0 = some r) {w : World} {v0 : Value} (hA : AvOK A w) (h0 : Rep (eSl eStr) A w v0 p0) :
  Calls Try.prog 77 #[v0] w fun e w' => ∃ v, e = .returned v ∧ (v = .bool r ∧ Fr w w') := by
 unfold M_impl_IsTokenSet at hr
 obtain ⟨w0, hw0⟩ : ∃ w0, w0 = w := ⟨_, rfl⟩
 have hF : Fr w0 w := hw0 ▸ Fr.refl _
 rw [show Fr w = Fr w0 from hw0 ▸ rfl]
 clear hw0
 refine calls_of_HT2 [.tmp 2] Try.func77 Try.ntmps77 (by decide) rfl rfl (Nat.le_of_ble_eq_true rfl) ?_
 intro R hR
 have f_v0 := h0
 replace h0 : R 0 = v0 := hR 0 _ rfl
 clear hR
 refine HT.seq ?_
 refine HT.text (l := ⟨_, true, .raw (.bool false)⟩ :: []) (tl := []) (by kernel_rfl) (by kernel_rfl) (by kernel_rfl) ?_ ?_
 ·exact
   Obls.p (fun R' w' hw hs hd => of_assign rfl) <|
   Obls.nil
 intro R w hw hs hF'
 replace h0 := (hs 0 rfl).trans h0
 replace f_v0 := f_v0.fr hw
 replace hA := hA.fr hw.size
 replace hF := hF.trans hw
 clear hs hF' hw
 refine seqR_nil ?_
 refine HT.seq ?_
 refine HT.seq ?_
 refine HT.text (l := ⟨_, true, .raw v0⟩ :: ⟨_, true, .raw (.int .i64 (p0.length : Int))⟩ :: ⟨_, true, .raw (.int .i64 (0 : Int))⟩ :: []) (tl := []) (by kernel_rfl) (by kernel_rfl) (by kernel_rfl) ?_ ?_
 ·exact
   Obls.p (fun R' w' hw hs hd => of_move ((hs 0 rfl).trans h0)) <|
   Obls.p (fun R' w' hw hs hd => by have a0 : R' 5 = v0 := hd.g 0 rfl; have ra0 := (f_v0.fr hw).eq a0; exact of_len_sl (aT := #[]) ra0 Try.underlying23) <|
   Obls.p (fun R' w' hw hs hd => of_move rfl) <|
   Obls.nil
 intro R w hw hs hF'
 replace h0 := (hs 0 rfl).trans h0
 have h5 : R 5 = v0 := hF' 0 _ _ rfl rfl rfl
 have h6 : R 6 = .int .i64 (p0.length : Int) := hF' 1 _ _ rfl rfl rfl
 have h7 : R 7 = .int .i64 (0 : Int) := hF' 2 _ _ rfl rfl rfl
 replace f_v0 := f_v0.fr hw
 replace hA := hA.fr hw.size
 replace hF := hF.trans hw
 clear hs hF' hw
 refine seqR_nil ?_
 obtain ⟨rl1, q2, hr⟩ := cl_some hr
 replace q2 := q2 rfl
 refine HT.cut0 (fun R w => ∃ (s3 : Unit), rl1 = Ex.go s3 ∧ AvOK A w ∧ Fr w0 w) ?_ ?_
 ·refine HT.block ?_
  refine HT.loop (fun k R w => ∃ (y4 : Int), M_impl_IsTokenSet_L0 fu p0 k y4 = some rl1 ∧ AvOK A w ∧ Fr w0 w ∧ R 0 = v0 ∧ R 5 = v0 ∧ R 6 = .int .i64 (p0.length : Int) ∧ R 7 = .int .i64 y4 ∧ Rep (eSl eStr) A w v0 p0) fu ⟨_, q2, hA, hF, h0, h5, h6, h7, f_v0⟩ ?_
  have hr0 := hr; clear hr q2
  rintro k R w ⟨y4, hr, hA, hF, h0, h5, h6, h7, f_v0⟩
  rcases k with _ | k
  ·cases (show none = some _ from hr)
  rw [M_impl_IsTokenSet_L0] at hr
  refine HT.seq ?_
  refine HT.text (l := ⟨_, true, .raw (.bool (decide (y4 < (p0.length : Int))))⟩ :: []) (tl := []) (by kernel_rfl) (by kernel_rfl) (by kernel_rfl) ?_ ?_
  ·exact
    Obls.p (fun R' w' hw hs hd => of_lss ((hs 7 rfl).trans h7) ((hs 6 rfl).trans h6)) <|
    Obls.nil
  intro R w hw hs hF'
  replace h0 := (hs 0 rfl).trans h0
  replace h5 := (hs 5 rfl).trans h5
  replace h6 := (hs 6 rfl).trans h6
  replace h7 := (hs 7 rfl).trans h7
  have h8 : R 8 = .bool (decide (y4 < (p0.length : Int))) := hF' 0 _ _ rfl rfl rfl
  replace f_v0 := f_v0.fr hw
  replace hA := hA.fr hw.size
  replace hF := hF.trans hw
  clear hs hF' hw
  refine seqR_nil ?_
  refine HT.seq ?_
  refine HT.cond (decide (y4 < (p0.length : Int))) h8 (fun c5 => ?_) (fun c5 => ?_)
  ·have hr := cnd_t c5 hr
   refine HT.skip ?_
   refine HT.seq ?_
   refine HT.block ?_
   refine HT.seq ?_
   obtain ⟨e6, hr⟩ := ck_some hr
   refine HT.text (l := ⟨_, true, .raw (.int .i64 y4)⟩ :: ⟨_, true, .qtr eStr A (gtD p0 y4)⟩ :: ⟨_, true, .rep eStr A (gtD p0 y4)⟩ :: ⟨_, true, .raw (.int .i64 y4)⟩ :: ⟨_, true, .rep eStr A (gtD p0 y4)⟩ :: []) (tl := []) (by kernel_rfl) (by kernel_rfl) (by kernel_rfl) ?_ ?_
   ·exact
     Obls.p (fun R' w' hw hs hd => of_move ((hs 7 rfl).trans h7)) <|
     Obls.p (fun R' w' hw hs hd => by have ra0 := (f_v0.fr hw).eq ((hs 5 rfl).trans h5); exact of_indexAddr ra0 ((hs 7 rfl).trans h7) Try.underlying23 Try.sizeOf9 e6) <|
     Obls.p (fun R' w' hw hs hd => by have a0 : QRep eStr A w' (R' 10) (gtD p0 y4) := hd.g 0 rfl; exact (of_load a0.ptr Try.isAgg9 Try.sizeOf9)) <|
     Obls.p (fun R' w' hw hs hd => by have a0 : R' 9 = .int .i64 y4 := hd.g 0 rfl; exact of_assign a0) <|
     Obls.p (fun R' w' hw hs hd => by have a0 : Rep eStr A w' (R' 11) (gtD p0 y4) := hd.g 0 rfl; exact of_assign a0) <|
     Obls.nil
   intro R w hw hs hF'
   replace h0 := (hs 0 rfl).trans h0
   replace h5 := (hs 5 rfl).trans h5
   replace h6 := (hs 6 rfl).trans h6
   replace h7 := (hs 7 rfl).trans h7
   have h3 : R 3 = .int .i64 y4 := hF' 3 _ _ rfl rfl rfl
   obtain ⟨u7, h4, f_u7⟩ : ∃ u, R 4 = u ∧ Rep eStr A w u (gtD p0 y4) := ⟨_, rfl, hF' 4 _ _ rfl rfl rfl⟩
   replace f_v0 := f_v0.fr hw
   replace hA := hA.fr hw.size
   replace hF := hF.trans hw
   clear hs hF' hw
   refine seqR_nil ?_
   refine HT.seq ?_
   obtain ⟨x8, q9, hr⟩ := cl_some hr
   obtain ⟨x10, q11, hr⟩ := bd_some hr
   obtain ⟨e12, hr⟩ := ck_some hr
   obtain ⟨e13, hr⟩ := ck_some hr
   obtain ⟨x14, q15, hr⟩ := bd_some hr
   obtain ⟨x16, q17, hr⟩ := bd_some hr
   refine HT.text (l := ⟨_, true, .raw u7⟩ :: ⟨_, true, .raw (.bool ((gtD p0 y4) == ([] : List UInt8)))⟩ :: ⟨_, true, .raw (.bool ((gtD p0 y4) == ([] : List UInt8)))⟩ :: ⟨_, (true && (((gtD p0 y4) == ([] : List UInt8)) == false)), .raw u7⟩ :: ⟨_, (true && (((gtD p0 y4) == ([] : List UInt8)) == false)), .raw (.bool x8)⟩ :: ⟨_, (true && (((gtD p0 y4) == ([] : List UInt8)) == false)), .raw (.bool (!x8))⟩ :: ⟨_, true, .raw (.bool x10)⟩ :: ⟨_, true, .raw (.bool x10)⟩ :: ⟨_, (true && (x10 == false)), .raw (.int .i64 y4)⟩ :: ⟨_, (true && (x10 == false)), .raw (.bool (decide ((0 : Int) < y4)))⟩ :: ⟨_, (true && (x10 == false)), .raw (.bool (decide ((0 : Int) < y4)))⟩ :: ⟨_, ((true && (x10 == false)) && ((decide ((0 : Int) < y4)) == true)), .raw v0⟩ :: ⟨_, ((true && (x10 == false)) && ((decide ((0 : Int) < y4)) == true)), .raw (.int .i64 y4)⟩ :: ⟨_, ((true && (x10 == false)) && ((decide ((0 : Int) < y4)) == true)), .raw (.int .i64 (y4 - (1 : Int)))⟩ :: ⟨_, ((true && (x10 == false)) && ((decide ((0 : Int) < y4)) == true)), .qtr eStr A (gtD p0 (y4 - (1 : Int)))⟩ :: ⟨_, ((true && (x10 == false)) && ((decide ((0 : Int) < y4)) == true)), .rep eStr A (gtD p0 (y4 - (1 : Int)))⟩ :: ⟨_, ((true && (x10 == false)) && ((decide ((0 : Int) < y4)) == true)), .raw u7⟩ :: ⟨_, ((true && (x10 == false)) && ((decide ((0 : Int) < y4)) == true)), .raw (.bool (!(bLt (gtD p0 (y4 - (1 : Int))) (gtD p0 y4))))⟩ :: ⟨_, (true && (x10 == false)), .raw (.bool x14)⟩ :: ⟨_, true, .raw (.bool x16)⟩ :: []) (tl := []) (by kernel_rfl) (by kernel_rfl) (by kernel_rfl) ?_ ?_
   ·exact
     Obls.p (fun R' w' hw hs hd => of_move ((hs 4 rfl).trans h4)) <|
     Obls.p (fun R' w' hw hs hd => by have a0 : R' 12 = u7 := hd.g 0 rfl; have ra0 := (f_u7.fr hw).eq a0; exact of_seql ra0 ⟨_, rfl, ⟨_, rfl, rfl, by decide⟩⟩) <|
     Obls.p (fun R' w' hw hs hd => by have a0 : R' 13 = .bool ((gtD p0 y4) == ([] : List UInt8)) := hd.g 0 rfl; exact of_move a0) <|
     Obls.cons (Obl.grd 2 false _ _ _ rfl rfl rfl rfl rfl (by kernel_rfl) fun hg R' w' hw hs hd => by have a0 : R' 4 = u7 := (hs 4 rfl).trans h4; exact of_move a0) <|
     Obls.cons (Obl.grd 2 false _ _ _ rfl rfl rfl rfl rfl (by kernel_rfl) fun hg R' w' hw hs hd => by have a0 : R' 15 = u7 := hd 0 _ _ _ rfl rfl rfl rfl hg; have ra0 := (f_u7.fr hw).eq a0; exact of_call Try.call111 (M_impl_isAlphanumeric_ok (q9 hg) (hA.fr hw.size) ra0)) <|
     Obls.cons (Obl.grd 2 false _ _ _ rfl rfl rfl rfl rfl (by kernel_rfl) fun hg R' w' hw hs hd => by have a0 : R' 16 = .bool x8 := hd 0 _ _ _ rfl rfl rfl rfl hg; exact of_not a0) <|
     Obls.p (fun R' w' hw hs hd => by have a0 : R' 14 = .bool ((gtD p0 y4) == ([] : List UInt8)) := hd.g 0 rfl; exact of_pick ((gtD p0 y4) == ([] : List UInt8)) a0 (fun hc => by show _ = Value.bool x10; rw [q11, hc]; exact rfl) (fun hc => by have a2 : R' 17 = .bool (!x8) := hd 1 _ _ _ rfl rfl rfl rfl (g_and rfl (beq_of hc)); show _ = Value.bool x10; rw [q11, hc]; exact a2)) <|
     Obls.p (fun R' w' hw hs hd => by have a0 : R' 18 = .bool x10 := hd.g 0 rfl; exact of_move a0) <|
     Obls.cons (Obl.grd 7 false _ _ _ rfl rfl rfl rfl rfl (by kernel_rfl) fun hg R' w' hw hs hd => by have a0 : R' 3 = .int .i64 y4 := (hs 3 rfl).trans h3; exact of_move a0) <|
     Obls.cons (Obl.grd 7 false _ _ _ rfl rfl rfl rfl rfl (by kernel_rfl) fun hg R' w' hw hs hd => by have a0 : R' 20 = .int .i64 y4 := hd 0 _ _ _ rfl rfl rfl rfl hg; exact of_gtr a0 rfl) <|
     Obls.cons (Obl.grd 7 false _ _ _ rfl rfl rfl rfl rfl (by kernel_rfl) fun hg R' w' hw hs hd => by have a0 : R' 21 = .bool (decide ((0 : Int) < y4)) := hd 0 _ _ _ rfl rfl rfl rfl hg; exact of_move a0) <|
     Obls.cons (Obl.grd 10 true _ _ _ rfl rfl rfl rfl rfl (by kernel_rfl) fun hg R' w' hw hs hd => by have a0 : R' 0 = v0 := (hs 0 rfl).trans h0; exact of_move a0) <|
     Obls.cons (Obl.grd 10 true _ _ _ rfl rfl rfl rfl rfl (by kernel_rfl) fun hg R' w' hw hs hd => by have a0 : R' 3 = .int .i64 y4 := (hs 3 rfl).trans h3; exact of_move a0) <|
     Obls.cons (Obl.grd 10 true _ _ _ rfl rfl rfl rfl rfl (by kernel_rfl) fun hg R' w' hw hs hd => by have a0 : R' 24 = .int .i64 y4 := hd 0 _ _ _ rfl rfl rfl rfl hg; exact of_sub a0 rfl (gd e12 hg)) <|
     Obls.cons (Obl.grd 10 true _ _ _ rfl rfl rfl rfl rfl (by kernel_rfl) fun hg R' w' hw hs hd => by have a0 : R' 23 = v0 := hd 0 _ _ _ rfl rfl rfl rfl hg; have a1 : R' 25 = .int .i64 (y4 - (1 : Int)) := hd 1 _ _ _ rfl rfl rfl rfl hg; have ra0 := (f_v0.fr hw).eq a0; exact of_indexAddr ra0 a1 Try.underlying23 Try.sizeOf9 (gd e13 hg)) <|
     Obls.cons (Obl.grd 10 true _ _ _ rfl rfl rfl rfl rfl (by kernel_rfl) fun hg R' w' hw hs hd => by have a0 : QRep eStr A w' (R' 26) (gtD p0 (y4 - (1 : Int))) := hd 0 _ _ _ rfl rfl rfl rfl hg; exact (of_load a0.ptr Try.isAgg9 Try.sizeOf9)) <|
     Obls.cons (Obl.grd 10 true _ _ _ rfl rfl rfl rfl rfl (by kernel_rfl) fun hg R' w' hw hs hd => by have a0 : R' 4 = u7 := (hs 4 rfl).trans h4; exact of_move a0) <|
     Obls.cons (Obl.grd 10 true _ _ _ rfl rfl rfl rfl rfl (by kernel_rfl) fun hg R' w' hw hs hd => by have a0 : Rep eStr A w' (R' 27) (gtD p0 (y4 - (1 : Int))) := hd 0 _ _ _ rfl rfl rfl rfl hg; have a1 : R' 28 = u7 := hd 1 _ _ _ rfl rfl rfl rfl hg; have ra1 := (f_u7.fr hw).eq a1; exact of_sgeq a0 ra1) <|
     Obls.cons (Obl.grd 7 false _ _ _ rfl rfl rfl rfl rfl (by kernel_rfl) fun hg R' w' hw hs hd => by have a0 : R' 22 = .bool (decide ((0 : Int) < y4)) := hd 0 _ _ _ rfl rfl rfl rfl hg; exact of_pick (decide ((0 : Int) < y4)) a0 (fun hc => by have a1 : R' 29 = .bool (!(bLt (gtD p0 (y4 - (1 : Int))) (gtD p0 y4))) := hd 1 _ _ _ rfl rfl rfl rfl (g_and hg (beq_of hc)); show _ = Value.bool x14; rw [q15, hc]; exact a1) (fun hc => by show _ = Value.bool x14; rw [q15, hc]; exact rfl)) <|
     Obls.p (fun R' w' hw hs hd => by have a0 : R' 19 = .bool x10 := hd.g 0 rfl; exact of_pick x10 a0 (fun hc => by show _ = Value.bool x16; rw [q17, hc]; exact rfl) (fun hc => by have a2 : R' 30 = .bool x14 := hd 1 _ _ _ rfl rfl rfl rfl (g_and rfl (beq_of hc)); show _ = Value.bool x16; rw [q17, hc]; exact a2)) <|
     Obls.nil
   intro R w hw hs hF'
   replace h0 := (hs 0 rfl).trans h0
   replace h5 := (hs 5 rfl).trans h5
   replace h6 := (hs 6 rfl).trans h6
   replace h7 := (hs 7 rfl).trans h7
   have h31 : R 31 = .bool x16 := hF' 19 _ _ rfl rfl rfl
   replace f_v0 := f_v0.fr hw
   replace hA := hA.fr hw.size
   replace hF := hF.trans hw
   clear hs hF' hw
   refine seqR_nil ?_
   refine HT.cond x16 h31 (fun c18 => ?_) (fun c18 => ?_)
   ·have hr := cnd_t c18 hr
    refine HT.seq ?_
    refine HT.text (l := ⟨_, true, .raw (.bool false)⟩ :: []) (tl := []) (by kernel_rfl) (by kernel_rfl) (by kernel_rfl) ?_ ?_
    ·exact
      Obls.p (fun R' w' hw hs hd => of_assign rfl) <|
      Obls.nil
    intro R w hw hs hF'
    have h2 : R 2 = .bool false := hF' 0 _ _ rfl rfl rfl
    replace hA := hA.fr hw.size
    replace hF := hF.trans hw
    clear hs hF' hw
    refine seqR_nil ?_
    refine HT.ret ?_
    obtain rfl := Option.some.inj hr
    have hr := hr0
    replace hr : some _ = some _ := hr
    obtain rfl := Option.some.inj hr
    exact ⟨.inr rfl, [R 2], ⟨rfl, trivial⟩, h2, hF⟩
   ·have hr := cnd_f c18 hr
    refine HT.skip ?_
    obtain ⟨e19, hr⟩ := ck_some hr
    refine HT.text (l := ⟨_, true, .raw (.int .i64 (y4 + (1 : Int)))⟩ :: ⟨_, true, .raw (.int .i64 (y4 + (1 : Int)))⟩ :: []) (tl := []) (by kernel_rfl) (by kernel_rfl) (by kernel_rfl) ?_ ?_
    ·exact
      Obls.p (fun R' w' hw hs hd => of_add ((hs 7 rfl).trans h7) rfl e19) <|
      Obls.p (fun R' w' hw hs hd => by have a0 : R' 32 = .int .i64 (y4 + (1 : Int)) := hd.g 0 rfl; exact of_move a0) <|
      Obls.nil
    intro R w hw hs hF'
    replace h0 := (hs 0 rfl).trans h0
    replace h5 := (hs 5 rfl).trans h5
    replace h6 := (hs 6 rfl).trans h6
    have h7 : R 7 = .int .i64 (y4 + (1 : Int)) := hF' 1 _ _ rfl rfl rfl
    replace f_v0 := f_v0.fr hw
    replace hA := hA.fr hw.size
    replace hF := hF.trans hw
    clear hs hF' hw
    refine seqR_nil ?_
    exact Exists.intro k (And.intro (Nat.lt_succ_self k) ⟨_, hr, hA, hF, h0, h5, h6, h7, f_v0⟩)
  ·have hr := cnd_f c5 hr
   refine HT.exit ?_
   obtain rfl := Option.some.inj hr
   exact Exists.intro _ ⟨rfl, hA, hF⟩
 rintro R w ⟨s3, rfl, hA, hF⟩
 have hr := exM_go hr
 refine HT.seq ?_
 refine HT.text (l := ⟨_, true, .raw (.bool true)⟩ :: []) (tl := []) (by kernel_rfl) (by kernel_rfl) (by kernel_rfl) ?_ ?_
 ·exact
   Obls.p (fun R' w' hw hs hd => of_assign rfl) <|
   Obls.nil
 intro R w hw hs hF'
 have h2 : R 2 = .bool true := hF' 0 _ _ rfl rfl rfl
 replace hA := hA.fr hw.size
 replace hF := hF.trans hw
 clear hs hF' hw
 refine seqR_nil ?_
 refine HT.ret ?_
 obtain rfl := Option.some.inj hr
 exact ⟨.inr rfl, [R 2], ⟨rfl, trivial⟩, h2, hF⟩
def M_impl_IsValidSetIndex_L0 (fu : Nat) (p0 : T_impl_SetIndex) : Nat → Int → Option (Ex Bool Unit)
 | 0, _ => none
 | k + 1, y15 =>
  bif (decide (y15 < (p0.2.2.length : Int))) then (
   ck (inR y15 p0.2.2.length) <|
   cl true (M_impl_isSetID fu ((gtD p0.2.2 y15).1)) fun x21 =>
   cl (true && ((!x21) == false)) (M_impl_IsTokenSet fu ((gtD p0.2.2 y15).2)) fun x23 =>
   bd ((!x21) || (!x23)) fun x25 =>
   ck (!((true && (x25 == false)) && ((decide ((0 : Int) < y15)) == true)) || i64B (y15 - (1 : Int))) <|
   ck (!((true && (x25 == false)) && ((decide ((0 : Int) < y15)) == true)) || inR (y15 - (1 : Int)) p0.2.2.length) <|
   bd ((decide ((0 : Int) < y15)) && (decide (((gtD p0.2.2 y15).1) ≤ ((gtD p0.2.2 (y15 - (1 : Int))).1)))) fun x29 =>
   bd (x25 || x29) fun x31 =>
   bif x31 then (
    some (Ex.ret false)
   ) else (
    ck (i64B (y15 + (1 : Int))) <|
    M_impl_IsValidSetIndex_L0 fu p0 k (y15 + (1 : Int))
   )
  ) else (
   some (Ex.go ())
  )
def M_impl_IsValidSetIndex (fu : Nat) (p0 : T_impl_SetIndex) : Option Bool :=
 cl true (M_impl_IsTokenTable fu p0.2.1) fun x2 =>
 cl (true && ((!x2) == false)) (M_impl_isThreshold fu p0.1) fun x4 =>
 bd ((!x2) || (!x4)) fun x6 =>
 bd (x6 || (decide ((12 : Int) < (p0.2.2.length : Int)))) fun x8 =>
 bif x8 then (
  some false
 ) else (
  cl true (M_impl_IsValidSetIndex_L0 fu p0 fu (0 : Int)) fun rl12 =>
  exM rl12 (fun r => some r) fun s14 =>
  some true
 )
theorem M_impl_IsValidSetIndex_ok {fu : Nat} {A0 : Av} {p0 : T_impl_SetIndex} {r : Bool} (hr : M_impl_IsValidSetIndex fu p0 = some r) {w : World} {v0 : Value} (hA : AvOK A0 w) (h0 : Rep E_impl_SetIndex A0 w v0 p0) :
  Calls Try.prog 36 #[v0] w fun e w' => ∃ v, e = .returned v ∧ (v = .bool r ∧ Fr w w') := by
 unfold M_impl_IsValidSetIndex at hr
 obtain ⟨w0, hw0⟩ : ∃ w0, w0 = w := ⟨_, rfl⟩
 have hF : Fr w0 w := hw0 ▸ Fr.refl _
 have hA0 : ∀ b o, A0 b o → b < w0.heap.size := fun b o h => hw0 ▸ hA b o h
 have hA00 : AvOK A0 w0 := hA0
 rw [show Fr w = Fr w0 from hw0 ▸ rfl]
 clear hw0
 obtain ⟨A, hAe⟩ : ∃ A, A = A0 := ⟨_, rfl⟩
 have hAA : ∀ b o, A0 b o → A b o := fun b o h => hAe ▸ h
 replace hA : AvOK A w := hAe ▸ hA
 have hO : IniOK [] A w := IniOK.nil
 refine calls_of_HT2 [.tmp 2] Try.func36 Try.ntmps36 (by decide) rfl rfl (Nat.le_of_ble_eq_true rfl) ?_
 intro R hR
 have f_v0 : Rep E_impl_SetIndex A w v0 p0 := hAe ▸ h0
 replace h0 : R 0 = v0 := hR 0 _ rfl
 clear hR hAe
 refine HT.seq ?_
 refine HT.textR [] (⟨_, true, [], some (.box w0.heap.size 49 E_impl_SetIndex p0), true, fun A => .any⟩ :: ⟨_, true, [], none, true, fun A => .raw (.bool false)⟩ :: []) (by kernel_rfl) (by kernel_rfl) (Wf.mk' (by kernel_rfl) (UAll.cons ust_any (UAll.cons ust_raw (UAll.nil))) (by kernel_rfl) (by kernel_rfl)) hO hA ?_ ?_
 ·exact
   OblsR.cons (OblR.made _ rfl rfl rfl rfl fun A' R' w' ho hd => by have a0 : R' 0 = v0 := (ho.old 0 rfl).trans h0; have ra0 := (f_v0.stp ho.stp).eq a0; exact made_box ra0 (Nat.le_trans hF.size ho.ch.size)) <|
   OblsR.p (fun A' R' w' ho hd => of_assign rfl) <|
   OblsR.nil
 intro done ρ σ A R w hdn hI
 obtain ⟨b1_0, e_b1_0⟩ := hI.boxv hdn 0 rfl rfl
 have h1 : R 1 = (.pointer (some ⟨b1_0, 0, none⟩)) := (hI.opvR hdn 0 0 rfl rfl rfl rfl rfl).symm.trans e_b1_0
 replace hAA := hI.low' hAA hA0 (hO.ge (trivial))
 replace hF : Fr w0 w := hF.tr hI.ch (hO.ge (trivial))
 replace hO : IniOK [ob (.pointer (some ⟨b1_0, 0, none⟩)) (.box w0.heap.size 49 E_impl_SetIndex p0)] A w := hI.left hdn [(0, ob (.pointer (some ⟨b1_0, 0, none⟩)) (.box w0.heap.size 49 E_impl_SetIndex p0))] ⟨rfl, rfl, e_b1_0, rfl, rfl, trivial⟩
 replace hA := hI.avok
 clear hI
 refine HT.seq ?_
 refine HT.seq ?_
 obtain ⟨x2, q3, hr⟩ := cl_some hr
 obtain ⟨x4, q5, hr⟩ := cl_some hr
 obtain ⟨x6, q7, hr⟩ := bd_some hr
 obtain ⟨x8, q9, hr⟩ := bd_some hr
 refine HT.text (l := ⟨_, true, .raw (.pointer (some ⟨b1_0, 1, none⟩))⟩ :: ⟨_, true, .rep (eSl E_impl_TokenCount) A p0.2.1⟩ :: ⟨_, true, .raw (.bool x2)⟩ :: ⟨_, true, .raw (.bool (!x2))⟩ :: ⟨_, true, .raw (.bool (!x2))⟩ :: ⟨_, (true && ((!x2) == false)), .raw (.pointer (some ⟨b1_0, 0, none⟩))⟩ :: ⟨_, (true && ((!x2) == false)), .raw (.int .i64 p0.1)⟩ :: ⟨_, (true && ((!x2) == false)), .raw (.bool x4)⟩ :: ⟨_, (true && ((!x2) == false)), .raw (.bool (!x4))⟩ :: ⟨_, true, .raw (.bool x6)⟩ :: ⟨_, true, .raw (.bool x6)⟩ :: ⟨_, (true && (x6 == false)), .raw (.pointer (some ⟨b1_0, 2, none⟩))⟩ :: ⟨_, (true && (x6 == false)), .rep (eSl E_impl_IndexedSet) A p0.2.2⟩ :: ⟨_, (true && (x6 == false)), .raw (.int .i64 (p0.2.2.length : Int))⟩ :: ⟨_, (true && (x6 == false)), .raw (.bool (decide ((12 : Int) < (p0.2.2.length : Int))))⟩ :: ⟨_, true, .raw (.bool x8)⟩ :: []) (tl := []) (by kernel_rfl) (by kernel_rfl) (by kernel_rfl) ?_ ?_
 ·exact
   Obls.p (fun R' w' hw hs hd => of_fieldAddr_raw ((hs 1 rfl).trans h1) ff_49_1 Try.sizeOf27 (by decide) rfl) <|
   Obls.p (fun R' w' hw hs hd => by have a0 : R' 5 = (.pointer (some ⟨b1_0, 1, none⟩)) := hd.g 0 rfl; exact (of_load_box ((hO.fr hw).ok 0 _ rfl).1 a0 fl_impl_SetIndex_1 rfl Try.isAgg27 Try.sizeOf27)) <|
   Obls.p (fun R' w' hw hs hd => by have a0 : Rep (eSl E_impl_TokenCount) A w' (R' 6) p0.2.1 := hd.g 0 rfl; exact of_call Try.call82 (M_impl_IsTokenTable_ok (q3 rfl) (hA.fr hw.size) a0)) <|
   Obls.p (fun R' w' hw hs hd => by have a0 : R' 7 = .bool x2 := hd.g 0 rfl; exact of_not a0) <|
   Obls.p (fun R' w' hw hs hd => by have a0 : R' 8 = .bool (!x2) := hd.g 0 rfl; exact of_move a0) <|
   Obls.cons (Obl.grd 4 false _ _ _ rfl rfl rfl rfl rfl (by kernel_rfl) fun hg R' w' hw hs hd => by have a0 : R' 1 = (.pointer (some ⟨b1_0, 0, none⟩)) := (hs 1 rfl).trans h1; exact of_fieldAddr_raw a0 ff_49_0 Try.sizeOf3 (by decide) rfl) <|
   Obls.cons (Obl.grd 4 false _ _ _ rfl rfl rfl rfl rfl (by kernel_rfl) fun hg R' w' hw hs hd => by have a0 : R' 10 = (.pointer (some ⟨b1_0, 0, none⟩)) := hd 0 _ _ _ rfl rfl rfl rfl hg; exact OpF.int (of_load_box ((hO.fr hw).ok 0 _ rfl).1 a0 fl_impl_SetIndex_0 rfl Try.isAgg3 Try.sizeOf3)) <|
   Obls.cons (Obl.grd 4 false _ _ _ rfl rfl rfl rfl rfl (by kernel_rfl) fun hg R' w' hw hs hd => by have a0 : R' 11 = .int .i64 p0.1 := hd 0 _ _ _ rfl rfl rfl rfl hg; exact of_call Try.call83 (M_impl_isThreshold_ok (q5 hg) (hA.fr hw.size) a0)) <|
   Obls.cons (Obl.grd 4 false _ _ _ rfl rfl rfl rfl rfl (by kernel_rfl) fun hg R' w' hw hs hd => by have a0 : R' 12 = .bool x4 := hd 0 _ _ _ rfl rfl rfl rfl hg; exact of_not a0) <|
   Obls.p (fun R' w' hw hs hd => by have a0 : R' 9 = .bool (!x2) := hd.g 0 rfl; exact of_pick (!x2) a0 (fun hc => by show _ = Value.bool x6; rw [q7, hc]; exact rfl) (fun hc => by have a2 : R' 13 = .bool (!x4) := hd 1 _ _ _ rfl rfl rfl rfl (g_and rfl (beq_of hc)); show _ = Value.bool x6; rw [q7, hc]; exact a2)) <|
   Obls.p (fun R' w' hw hs hd => by have a0 : R' 14 = .bool x6 := hd.g 0 rfl; exact of_move a0) <|
   Obls.cons (Obl.grd 10 false _ _ _ rfl rfl rfl rfl rfl (by kernel_rfl) fun hg R' w' hw hs hd => by have a0 : R' 1 = (.pointer (some ⟨b1_0, 0, none⟩)) := (hs 1 rfl).trans h1; exact of_fieldAddr_raw a0 ff_49_2 Try.sizeOf47 (by decide) rfl) <|
   Obls.cons (Obl.grd 10 false _ _ _ rfl rfl rfl rfl rfl (by kernel_rfl) fun hg R' w' hw hs hd => by have a0 : R' 16 = (.pointer (some ⟨b1_0, 2, none⟩)) := hd 0 _ _ _ rfl rfl rfl rfl hg; exact (of_load_box ((hO.fr hw).ok 0 _ rfl).1 a0 fl_impl_SetIndex_2 rfl Try.isAgg47 Try.sizeOf47)) <|
   Obls.cons (Obl.grd 10 false _ _ _ rfl rfl rfl rfl rfl (by kernel_rfl) fun hg R' w' hw hs hd => by have a0 : Rep (eSl E_impl_IndexedSet) A w' (R' 17) p0.2.2 := hd 0 _ _ _ rfl rfl rfl rfl hg; exact of_len_sl (aT := #[]) a0 Try.underlying47) <|
   Obls.cons (Obl.grd 10 false _ _ _ rfl rfl rfl rfl rfl (by kernel_rfl) fun hg R' w' hw hs hd => by have a0 : R' 18 = .int .i64 (p0.2.2.length : Int) := hd 0 _ _ _ rfl rfl rfl rfl hg; exact of_gtr a0 rfl) <|
   Obls.p (fun R' w' hw hs hd => by have a0 : R' 15 = .bool x6 := hd.g 0 rfl; exact of_pick x6 a0 (fun hc => by show _ = Value.bool x8; rw [q9, hc]; exact rfl) (fun hc => by have a2 : R' 19 = .bool (decide ((12 : Int) < (p0.2.2.length : Int))) := hd 1 _ _ _ rfl rfl rfl rfl (g_and rfl (beq_of hc)); show _ = Value.bool x8; rw [q9, hc]; exact a2)) <|
   Obls.nil
 intro R w hw hs hF'
 replace h1 := (hs 1 rfl).trans h1
 have h20 : R 20 = .bool x8 := hF' 15 _ _ rfl rfl rfl
 replace hO := hO.fr hw
 replace hA := hA.fr hw.size
 replace hF := hF.trans hw
 clear hs hF' hw
 refine seqR_nil ?_
 refine HT.cond x8 h20 (fun c10 => ?_) (fun c10 => ?_)
 ·have hr := cnd_t c10 hr
  refine HT.seq ?_
  refine HT.text (l := ⟨_, true, .raw (.bool false)⟩ :: []) (tl := []) (by kernel_rfl) (by kernel_rfl) (by kernel_rfl) ?_ ?_
  ·exact
    Obls.p (fun R' w' hw hs hd => of_assign rfl) <|
    Obls.nil
  intro R w hw hs hF'
  have h2 : R 2 = .bool false := hF' 0 _ _ rfl rfl rfl
  replace hO := hO.fr hw
  replace hO : IniOK [] A w := hO.sub [] trivial
  replace hA := hA.fr hw.size
  replace hF := hF.trans hw
  clear hs hF' hw
  refine seqR_nil ?_
  refine HT.ret ?_
  obtain rfl := Option.some.inj hr
  exact ⟨.inr rfl, [R 2], ⟨rfl, trivial⟩, h2, hF⟩
 ·have hr := cnd_f c10 hr
  refine HT.skip ?_
  refine HT.seq ?_
  refine HT.seq ?_
  refine HT.text (l := ⟨_, true, .raw (.pointer (some ⟨b1_0, 2, none⟩))⟩ :: ⟨_, true, .rep (eSl E_impl_IndexedSet) A p0.2.2⟩ :: ⟨_, true, .raw (.int .i64 (p0.2.2.length : Int))⟩ :: ⟨_, true, .raw (.int .i64 (0 : Int))⟩ :: []) (tl := []) (by kernel_rfl) (by kernel_rfl) (by kernel_rfl) ?_ ?_
  ·exact
    Obls.p (fun R' w' hw hs hd => of_fieldAddr_raw ((hs 1 rfl).trans h1) ff_49_2 Try.sizeOf47 (by decide) rfl) <|
    Obls.p (fun R' w' hw hs hd => by have a0 : R' 21 = (.pointer (some ⟨b1_0, 2, none⟩)) := hd.g 0 rfl; exact (of_load_box ((hO.fr hw).ok 0 _ rfl).1 a0 fl_impl_SetIndex_2 rfl Try.isAgg47 Try.sizeOf47)) <|
    Obls.p (fun R' w' hw hs hd => by have a0 : Rep (eSl E_impl_IndexedSet) A w' (R' 22) p0.2.2 := hd.g 0 rfl; exact of_len_sl (aT := #[]) a0 Try.underlying47) <|
    Obls.p (fun R' w' hw hs hd => of_move rfl) <|
    Obls.nil
  intro R w hw hs hF'
  replace h1 := (hs 1 rfl).trans h1
  obtain ⟨u11, h22, f_u11⟩ : ∃ u, R 22 = u ∧ Rep (eSl E_impl_IndexedSet) A w u p0.2.2 := ⟨_, rfl, hF' 1 _ _ rfl rfl rfl⟩
  have h23 : R 23 = .int .i64 (p0.2.2.length : Int) := hF' 2 _ _ rfl rfl rfl
  have h24 : R 24 = .int .i64 (0 : Int) := hF' 3 _ _ rfl rfl rfl
  replace hO := hO.fr hw
  replace hA := hA.fr hw.size
  replace hF := hF.trans hw
  clear hs hF' hw
  refine seqR_nil ?_
  obtain ⟨rl12, q13, hr⟩ := cl_some hr
  replace q13 := q13 rfl
  refine HT.cut0 (fun R w => ∃ A : Av, ∃ (s14 : Unit), rl12 = Ex.go s14 ∧ AvOK A w ∧ Fr w0 w ∧ (∀ b o, A0 b o → A b o) ∧ IniOK [] A w) ?_ ?_
  ·refine HT.block ?_
   refine HT.loop (fun k R w => ∃ A : Av, ∃ (y15 : Int), M_impl_IsValidSetIndex_L0 fu p0 k y15 = some rl12 ∧ AvOK A w ∧ Fr w0 w ∧ (∀ b o, A0 b o → A b o) ∧ IniOK [ob (.pointer (some ⟨b1_0, 0, none⟩)) (.box w0.heap.size 49 E_impl_SetIndex p0)] A w ∧ R 1 = (.pointer (some ⟨b1_0, 0, none⟩)) ∧ R 22 = u11 ∧ R 23 = .int .i64 (p0.2.2.length : Int) ∧ R 24 = .int .i64 y15 ∧ Rep (eSl E_impl_IndexedSet) A w u11 p0.2.2) fu ⟨_, _, q13, hA, hF, hAA, hO, h1, h22, h23, h24, f_u11⟩ ?_
   have hr0 := hr; clear hr q13
   rintro k R w ⟨A, y15, hr, hA, hF, hAA, hO, h1, h22, h23, h24, f_u11⟩
   rcases k with _ | k
   ·cases (show none = some _ from hr)
   rw [M_impl_IsValidSetIndex_L0] at hr
   refine HT.seq ?_
   refine HT.text (l := ⟨_, true, .raw (.bool (decide (y15 < (p0.2.2.length : Int))))⟩ :: []) (tl := []) (by kernel_rfl) (by kernel_rfl) (by kernel_rfl) ?_ ?_
   ·exact
     Obls.p (fun R' w' hw hs hd => of_lss ((hs 24 rfl).trans h24) ((hs 23 rfl).trans h23)) <|
     Obls.nil
   intro R w hw hs hF'
   replace h1 := (hs 1 rfl).trans h1
   replace h22 := (hs 22 rfl).trans h22
   replace h23 := (hs 23 rfl).trans h23
   replace h24 := (hs 24 rfl).trans h24
   have h25 : R 25 = .bool (decide (y15 < (p0.2.2.length : Int))) := hF' 0 _ _ rfl rfl rfl
   replace f_u11 := f_u11.fr hw
   replace hO := hO.fr hw
   replace hA := hA.fr hw.size
   replace hF := hF.trans hw
   clear hs hF' hw
   refine seqR_nil ?_
   refine HT.seq ?_
   refine HT.cond (decide (y15 < (p0.2.2.length : Int))) h25 (fun c16 => ?_) (fun c16 => ?_)
   ·have hr := cnd_t c16 hr
    refine HT.skip ?_
    refine HT.seq ?_
    refine HT.block ?_
    refine HT.seq ?_
    obtain ⟨e17, hr⟩ := ck_some hr
    refine HT.textR [ob (.pointer (some ⟨b1_0, 0, none⟩)) (.box w0.heap.size 49 E_impl_SetIndex p0)] (⟨_, true, [], none, true, fun A => .raw (.int .i64 y15)⟩ :: ⟨_, true, [], none, true, fun A => .qtr E_impl_IndexedSet A (gtD p0.2.2 y15)⟩ :: ⟨_, true, [], none, true, fun A => .rep E_impl_IndexedSet A (gtD p0.2.2 y15)⟩ :: ⟨_, true, [], some (.box w0.heap.size 91 E_impl_IndexedSet ((0 : Int), ([] : List (List UInt8)))), true, fun A => .any⟩ :: ⟨_, true, [], none, true, fun A => .raw (.int .i64 y15)⟩ :: ⟨_, true, [4], some (.box w0.heap.size 91 E_impl_IndexedSet (gtD p0.2.2 y15)), false, fun A => .any⟩ :: []) (by kernel_rfl) (by kernel_rfl) (Wf.mk' (by kernel_rfl) (UAll.cons ust_raw (UAll.cons ust_qtr (UAll.cons ust_rep (UAll.cons ust_any (UAll.cons ust_raw (UAll.cons ust_any (UAll.nil))))))) (by kernel_rfl) (by kernel_rfl)) hO hA ?_ ?_
    ·exact
      OblsR.p (fun A' R' w' ho hd => of_move ((ho.old 24 rfl).trans h24)) <|
      OblsR.p (fun A' R' w' ho hd => by have ra0 := (f_u11.stp ho.stp).eq ((ho.old 22 rfl).trans h22); exact of_indexAddr ra0 ((ho.old 24 rfl).trans h24) Try.underlying47 Try.sizeOf91 e17) <|
      OblsR.p (fun A' R' w' ho hd => by have a0 : QRep E_impl_IndexedSet A' w' (R' 27) (gtD p0.2.2 y15) := hd.g 0 rfl; exact (of_load a0.ptr Try.isAgg91 Try.sizeOf91)) <|
      OblsR.cons (OblR.made _ rfl rfl rfl rfl fun A' R' w' ho hd => by exact made_alloc Try.zeroValue91 (fun A w => rep_pr rep1_int rep1_nil) (Nat.le_trans hF.size ho.ch.size)) <|
      OblsR.p (fun A' R' w' ho hd => by have a0 : R' 26 = .int .i64 y15 := hd.g 0 rfl; exact of_assign a0) <|
      OblsR.cons (OblR.took 4 _ _ rfl rfl rfl rfl rfl fun A' R' w' ho hd u hok hav hin hop hds => by have a1 : Rep E_impl_IndexedSet A' w' (R' 28) (gtD p0.2.2 y15) := hd.g 1 rfl; obtain ⟨b, hb, hB', hbx⟩ := hok; have hop' := hop _ _ rfl rfl rfl rfl; exact took_store a1 (hop'.symm.trans hb) hb ⟨b, hb, hB', hbx⟩ hav (FldS.id _) Try.sizeOf91 rfl) <|
      OblsR.nil
    intro done ρ σ A R w hdn hI
    replace h1 : R 1 = (.pointer (some ⟨b1_0, 0, none⟩)) := (hI.reg rfl).trans h1
    replace h22 : R 22 = u11 := (hI.reg rfl).trans h22
    replace h23 : R 23 = .int .i64 (p0.2.2.length : Int) := (hI.reg rfl).trans h23
    replace h24 : R 24 = .int .i64 y15 := (hI.reg rfl).trans h24
    have z18 := hI.inivR 0 rfl
    obtain ⟨b4_18, e_b4_18⟩ := hI.boxv hdn 6 rfl rfl
    have z20 := (hI.opnR hdn 6 5 rfl rfl rfl rfl rfl).symm.trans e_b4_18
    have h4 : R 4 = (.pointer (some ⟨b4_18, 0, none⟩)) := (hI.opvR hdn 4 3 rfl rfl rfl rfl rfl).symm.trans z20
    have h3 : R 3 = .int .i64 y15 := hI.fact hdn (i := 4) rfl rfl rfl
    replace f_u11 := f_u11.stp hI.stp
    replace hAA := hI.low' hAA hA0 (hO.ge (⟨rfl, trivial⟩))
    replace hF : Fr w0 w := hF.tr hI.ch (hO.ge (⟨rfl, trivial⟩))
    replace hO : IniOK [ob (.pointer (some ⟨b1_0, 0, none⟩)) (.box w0.heap.size 49 E_impl_SetIndex p0), ob (.pointer (some ⟨b4_18, 0, none⟩)) (.box w0.heap.size 91 E_impl_IndexedSet (gtD p0.2.2 y15))] A w := hI.left hdn [(0, ob (.pointer (some ⟨b1_0, 0, none⟩)) (.box w0.heap.size 49 E_impl_SetIndex p0)), (6, ob (.pointer (some ⟨b4_18, 0, none⟩)) (.box w0.heap.size 91 E_impl_IndexedSet (gtD p0.2.2 y15)))] ⟨rfl, rfl, z18, rfl, rfl, ⟨rfl, rfl, e_b4_18, rfl, rfl, trivial⟩⟩
    replace hA := hI.avok
    clear hI
    refine HT.seq ?_
    obtain ⟨x21, q22, hr⟩ := cl_some hr
    obtain ⟨x23, q24, hr⟩ := cl_some hr
    obtain ⟨x25, q26, hr⟩ := bd_some hr
    obtain ⟨e27, hr⟩ := ck_some hr
    obtain ⟨e28, hr⟩ := ck_some hr
    obtain ⟨x29, q30, hr⟩ := bd_some hr
    obtain ⟨x31, q32, hr⟩ := bd_some hr
    refine HT.draw (by kernel_rfl) (l := ⟨_, true, .raw (.pointer (some ⟨b4_18, 0, none⟩))⟩ :: ⟨_, true, .raw (.int .i64 ((gtD p0.2.2 y15).1))⟩ :: ⟨_, true, .raw (.bool x21)⟩ :: ⟨_, true, .raw (.bool (!x21))⟩ :: ⟨_, true, .raw (.bool (!x21))⟩ :: ⟨_, (true && ((!x21) == false)), .raw (.pointer (some ⟨b4_18, 1, none⟩))⟩ :: ⟨_, (true && ((!x21) == false)), .rep (eSl eStr) A ((gtD p0.2.2 y15).2)⟩ :: ⟨_, (true && ((!x21) == false)), .raw (.bool x23)⟩ :: ⟨_, (true && ((!x21) == false)), .raw (.bool (!x23))⟩ :: ⟨_, true, .raw (.bool x25)⟩ :: ⟨_, true, .raw (.bool x25)⟩ :: ⟨_, (true && (x25 == false)), .raw (.int .i64 y15)⟩ :: ⟨_, (true && (x25 == false)), .raw (.bool (decide ((0 : Int) < y15)))⟩ :: ⟨_, (true && (x25 == false)), .raw (.bool (decide ((0 : Int) < y15)))⟩ :: ⟨_, ((true && (x25 == false)) && ((decide ((0 : Int) < y15)) == true)), .raw (.pointer (some ⟨b1_0, 2, none⟩))⟩ :: ⟨_, ((true && (x25 == false)) && ((decide ((0 : Int) < y15)) == true)), .rep (eSl E_impl_IndexedSet) A p0.2.2⟩ :: ⟨_, ((true && (x25 == false)) && ((decide ((0 : Int) < y15)) == true)), .raw (.int .i64 y15)⟩ :: ⟨_, ((true && (x25 == false)) && ((decide ((0 : Int) < y15)) == true)), .raw (.int .i64 (y15 - (1 : Int)))⟩ :: ⟨_, ((true && (x25 == false)) && ((decide ((0 : Int) < y15)) == true)), .qtr E_impl_IndexedSet A (gtD p0.2.2 (y15 - (1 : Int)))⟩ :: ⟨_, ((true && (x25 == false)) && ((decide ((0 : Int) < y15)) == true)), .qtr (eInt .i64) A ((gtD p0.2.2 (y15 - (1 : Int))).1)⟩ :: ⟨_, ((true && (x25 == false)) && ((decide ((0 : Int) < y15)) == true)), .raw (.int .i64 ((gtD p0.2.2 (y15 - (1 : Int))).1))⟩ :: ⟨_, ((true && (x25 == false)) && ((decide ((0 : Int) < y15)) == true)), .raw (.pointer (some ⟨b4_18, 0, none⟩))⟩ :: ⟨_, ((true && (x25 == false)) && ((decide ((0 : Int) < y15)) == true)), .raw (.int .i64 ((gtD p0.2.2 y15).1))⟩ :: ⟨_, ((true && (x25 == false)) && ((decide ((0 : Int) < y15)) == true)), .raw (.bool (decide (((gtD p0.2.2 y15).1) ≤ ((gtD p0.2.2 (y15 - (1 : Int))).1))))⟩ :: ⟨_, (true && (x25 == false)), .raw (.bool x29)⟩ :: ⟨_, true, .raw (.bool x31)⟩ :: []) (tl := []) (by kernel_rfl) (by kernel_rfl) (by kernel_rfl) (by kernel_rfl) ?_ ?_
    ·exact
      Obls.p (fun R' w' hw hs hd => of_fieldAddr_raw ((hs 4 rfl).trans h4) ff_91_0 Try.sizeOf3 (by decide) rfl) <|
      Obls.p (fun R' w' hw hs hd => by have a0 : R' 29 = (.pointer (some ⟨b4_18, 0, none⟩)) := hd.g 0 rfl; exact OpF.int (of_load_box ((hO.fr hw).ok 1 _ rfl).1 a0 fl_impl_IndexedSet_0 rfl Try.isAgg3 Try.sizeOf3)) <|
      Obls.p (fun R' w' hw hs hd => by have a0 : R' 30 = .int .i64 ((gtD p0.2.2 y15).1) := hd.g 0 rfl; exact of_call Try.call84 (M_impl_isSetID_ok (q22 rfl) (hA.fr hw.size) a0)) <|
      Obls.p (fun R' w' hw hs hd => by have a0 : R' 31 = .bool x21 := hd.g 0 rfl; exact of_not a0) <|
      Obls.p (fun R' w' hw hs hd => by have a0 : R' 32 = .bool (!x21) := hd.g 0 rfl; exact of_move a0) <|
      Obls.cons (Obl.grd 4 false _ _ _ rfl rfl rfl rfl rfl (by kernel_rfl) fun hg R' w' hw hs hd => by have a0 : R' 4 = (.pointer (some ⟨b4_18, 0, none⟩)) := (hs 4 rfl).trans h4; exact of_fieldAddr_raw a0 ff_91_1 Try.sizeOf23 (by decide) rfl) <|
      Obls.cons (Obl.grd 4 false _ _ _ rfl rfl rfl rfl rfl (by kernel_rfl) fun hg R' w' hw hs hd => by have a0 : R' 34 = (.pointer (some ⟨b4_18, 1, none⟩)) := hd 0 _ _ _ rfl rfl rfl rfl hg; exact (of_load_box ((hO.fr hw).ok 1 _ rfl).1 a0 fl_impl_IndexedSet_1 rfl Try.isAgg23 Try.sizeOf23)) <|
      Obls.cons (Obl.grd 4 false _ _ _ rfl rfl rfl rfl rfl (by kernel_rfl) fun hg R' w' hw hs hd => by have a0 : Rep (eSl eStr) A w' (R' 35) ((gtD p0.2.2 y15).2) := hd 0 _ _ _ rfl rfl rfl rfl hg; exact of_call Try.call77 (M_impl_IsTokenSet_ok (q24 hg) (hA.fr hw.size) a0)) <|
      Obls.cons (Obl.grd 4 false _ _ _ rfl rfl rfl rfl rfl (by kernel_rfl) fun hg R' w' hw hs hd => by have a0 : R' 36 = .bool x23 := hd 0 _ _ _ rfl rfl rfl rfl hg; exact of_not a0) <|
      Obls.p (fun R' w' hw hs hd => by have a0 : R' 33 = .bool (!x21) := hd.g 0 rfl; exact of_pick (!x21) a0 (fun hc => by show _ = Value.bool x25; rw [q26, hc]; exact rfl) (fun hc => by have a2 : R' 37 = .bool (!x23) := hd 1 _ _ _ rfl rfl rfl rfl (g_and rfl (beq_of hc)); show _ = Value.bool x25; rw [q26, hc]; exact a2)) <|
      Obls.p (fun R' w' hw hs hd => by have a0 : R' 38 = .bool x25 := hd.g 0 rfl; exact of_move a0) <|
      Obls.cons (Obl.grd 10 false _ _ _ rfl rfl rfl rfl rfl (by kernel_rfl) fun hg R' w' hw hs hd => by have a0 : R' 3 = .int .i64 y15 := (hs 3 rfl).trans h3; exact of_move a0) <|
      Obls.cons (Obl.grd 10 false _ _ _ rfl rfl rfl rfl rfl (by kernel_rfl) fun hg R' w' hw hs hd => by have a0 : R' 40 = .int .i64 y15 := hd 0 _ _ _ rfl rfl rfl rfl hg; exact of_gtr a0 rfl) <|
      Obls.cons (Obl.grd 10 false _ _ _ rfl rfl rfl rfl rfl (by kernel_rfl) fun hg R' w' hw hs hd => by have a0 : R' 41 = .bool (decide ((0 : Int) < y15)) := hd 0 _ _ _ rfl rfl rfl rfl hg; exact of_move a0) <|
      Obls.cons (Obl.grd 13 true _ _ _ rfl rfl rfl rfl rfl (by kernel_rfl) fun hg R' w' hw hs hd => by have a0 : R' 1 = (.pointer (some ⟨b1_0, 0, none⟩)) := (hs 1 rfl).trans h1; exact of_fieldAddr_raw a0 ff_49_2 Try.sizeOf47 (by decide) rfl) <|
      Obls.cons (Obl.grd 13 true _ _ _ rfl rfl rfl rfl rfl (by kernel_rfl) fun hg R' w' hw hs hd => by have a0 : R' 43 = (.pointer (some ⟨b1_0, 2, none⟩)) := hd 0 _ _ _ rfl rfl rfl rfl hg; exact (of_load_box ((hO.fr hw).ok 0 _ rfl).1 a0 fl_impl_SetIndex_2 rfl Try.isAgg47 Try.sizeOf47)) <|
      Obls.cons (Obl.grd 13 true _ _ _ rfl rfl rfl rfl rfl (by kernel_rfl) fun hg R' w' hw hs hd => by have a0 : R' 3 = .int .i64 y15 := (hs 3 rfl).trans h3; exact of_move a0) <|
      Obls.cons (Obl.grd 13 true _ _ _ rfl rfl rfl rfl rfl (by kernel_rfl) fun hg R' w' hw hs hd => by have a0 : R' 45 = .int .i64 y15 := hd 0 _ _ _ rfl rfl rfl rfl hg; exact of_sub a0 rfl (gd e27 hg)) <|
      Obls.cons (Obl.grd 13 true _ _ _ rfl rfl rfl rfl rfl (by kernel_rfl) fun hg R' w' hw hs hd => by have a0 : Rep (eSl E_impl_IndexedSet) A w' (R' 44) p0.2.2 := hd 0 _ _ _ rfl rfl rfl rfl hg; have a1 : R' 46 = .int .i64 (y15 - (1 : Int)) := hd 1 _ _ _ rfl rfl rfl rfl hg; exact of_indexAddr a0 a1 Try.underlying47 Try.sizeOf91 (gd e28 hg)) <|
      Obls.cons (Obl.grd 13 true _ _ _ rfl rfl rfl rfl rfl (by kernel_rfl) fun hg R' w' hw hs hd => by have a0 : QRep E_impl_IndexedSet A w' (R' 47) (gtD p0.2.2 (y15 - (1 : Int))) := hd 0 _ _ _ rfl rfl rfl rfl hg; exact of_fieldAddr_q a0 ff_91_0 Try.sizeOf3 (by decide) fl_impl_IndexedSet_0 rfl) <|
      Obls.cons (Obl.grd 13 true _ _ _ rfl rfl rfl rfl rfl (by kernel_rfl) fun hg R' w' hw hs hd => by have a0 : QRep (eInt .i64) A w' (R' 48) ((gtD p0.2.2 (y15 - (1 : Int))).1) := hd 0 _ _ _ rfl rfl rfl rfl hg; exact OpF.int (of_load a0.ptr Try.isAgg3 Try.sizeOf3)) <|
      Obls.cons (Obl.grd 13 true _ _ _ rfl rfl rfl rfl rfl (by kernel_rfl) fun hg R' w' hw hs hd => by have a0 : R' 4 = (.pointer (some ⟨b4_18, 0, none⟩)) := (hs 4 rfl).trans h4; exact of_fieldAddr_raw a0 ff_91_0 Try.sizeOf3 (by decide) rfl) <|
      Obls.cons (Obl.grd 13 true _ _ _ rfl rfl rfl rfl rfl (by kernel_rfl) fun hg R' w' hw hs hd => by have a0 : R' 50 = (.pointer (some ⟨b4_18, 0, none⟩)) := hd 0 _ _ _ rfl rfl rfl rfl hg; exact OpF.int (of_load_box ((hO.fr hw).ok 1 _ rfl).1 a0 fl_impl_IndexedSet_0 rfl Try.isAgg3 Try.sizeOf3)) <|
      Obls.cons (Obl.grd 13 true _ _ _ rfl rfl rfl rfl rfl (by kernel_rfl) fun hg R' w' hw hs hd => by have a0 : R' 49 = .int .i64 ((gtD p0.2.2 (y15 - (1 : Int))).1) := hd 0 _ _ _ rfl rfl rfl rfl hg; have a1 : R' 51 = .int .i64 ((gtD p0.2.2 y15).1) := hd 1 _ _ _ rfl rfl rfl rfl hg; exact of_geq a0 a1) <|
      Obls.cons (Obl.grd 10 false _ _ _ rfl rfl rfl rfl rfl (by kernel_rfl) fun hg R' w' hw hs hd => by have a0 : R' 42 = .bool (decide ((0 : Int) < y15)) := hd 0 _ _ _ rfl rfl rfl rfl hg; exact of_pick (decide ((0 : Int) < y15)) a0 (fun hc => by have a1 : R' 52 = .bool (decide (((gtD p0.2.2 y15).1) ≤ ((gtD p0.2.2 (y15 - (1 : Int))).1))) := hd 1 _ _ _ rfl rfl rfl rfl (g_and hg (beq_of hc)); show _ = Value.bool x29; rw [q30, hc]; exact a1) (fun hc => by show _ = Value.bool x29; rw [q30, hc]; exact rfl)) <|
      Obls.p (fun R' w' hw hs hd => by have a0 : R' 39 = .bool x25 := hd.g 0 rfl; exact of_pick x25 a0 (fun hc => by show _ = Value.bool x31; rw [q32, hc]; exact rfl) (fun hc => by have a2 : R' 53 = .bool x29 := hd 1 _ _ _ rfl rfl rfl rfl (g_and rfl (beq_of hc)); show _ = Value.bool x31; rw [q32, hc]; exact a2)) <|
      Obls.nil
    intro R w hw hs hF'
    replace h1 := (hs 1 rfl).trans h1
    replace h22 := (hs 22 rfl).trans h22
    replace h23 := (hs 23 rfl).trans h23
    replace h24 := (hs 24 rfl).trans h24
    have h54 : R 54 = .bool x31 := hF' 25 _ _ rfl rfl rfl
    replace f_u11 := f_u11.fr hw
    replace hO := hO.fr hw
    replace hO : IniOK [ob (.pointer (some ⟨b1_0, 0, none⟩)) (.box w0.heap.size 49 E_impl_SetIndex p0)] A w := hO.sub [(0, ob (.pointer (some ⟨b1_0, 0, none⟩)) (.box w0.heap.size 49 E_impl_SetIndex p0))] ⟨rfl, rfl, trivial⟩
    replace hA := hA.fr hw.size
    replace hF := hF.trans hw
    clear hs hF' hw
    refine seqR_nil ?_
    refine HT.cond x31 h54 (fun c33 => ?_) (fun c33 => ?_)
    ·have hr := cnd_t c33 hr
     refine HT.seq ?_
     refine HT.text (l := ⟨_, true, .raw (.bool false)⟩ :: []) (tl := []) (by kernel_rfl) (by kernel_rfl) (by kernel_rfl) ?_ ?_
     ·exact
       Obls.p (fun R' w' hw hs hd => of_assign rfl) <|
       Obls.nil
     intro R w hw hs hF'
     have h2 : R 2 = .bool false := hF' 0 _ _ rfl rfl rfl
     replace hO := hO.fr hw
     replace hO : IniOK [] A w := hO.sub [] trivial
     replace hA := hA.fr hw.size
     replace hF := hF.trans hw
     clear hs hF' hw
     refine seqR_nil ?_
     refine HT.ret ?_
     obtain rfl := Option.some.inj hr
     have hr := hr0
     replace hr : some _ = some _ := hr
     obtain rfl := Option.some.inj hr
     exact ⟨.inr rfl, [R 2], ⟨rfl, trivial⟩, h2, hF⟩
    ·have hr := cnd_f c33 hr
     refine HT.skip ?_
     obtain ⟨e34, hr⟩ := ck_some hr
     refine HT.text (l := ⟨_, true, .raw (.int .i64 (y15 + (1 : Int)))⟩ :: ⟨_, true, .raw (.int .i64 (y15 + (1 : Int)))⟩ :: []) (tl := []) (by kernel_rfl) (by kernel_rfl) (by kernel_rfl) ?_ ?_
     ·exact
       Obls.p (fun R' w' hw hs hd => of_add ((hs 24 rfl).trans h24) rfl e34) <|
       Obls.p (fun R' w' hw hs hd => by have a0 : R' 55 = .int .i64 (y15 + (1 : Int)) := hd.g 0 rfl; exact of_move a0) <|
       Obls.nil
     intro R w hw hs hF'
     replace h1 := (hs 1 rfl).trans h1
     replace h22 := (hs 22 rfl).trans h22
     replace h23 := (hs 23 rfl).trans h23
     have h24 : R 24 = .int .i64 (y15 + (1 : Int)) := hF' 1 _ _ rfl rfl rfl
     replace f_u11 := f_u11.fr hw
     replace hO := hO.fr hw
     replace hA := hA.fr hw.size
     replace hF := hF.trans hw
     clear hs hF' hw
     refine seqR_nil ?_
     exact Exists.intro k (And.intro (Nat.lt_succ_self k) ⟨_, _, hr, hA, hF, hAA, hO, h1, h22, h23, h24, f_u11⟩)
   ·have hr := cnd_f c16 hr
    refine HT.exit ?_
    obtain rfl := Option.some.inj hr
    replace hO : IniOK [] A w := hO.sub [] trivial
    exact Exists.intro _ ⟨_, rfl, hA, hF, hAA, hO⟩
  rintro R w ⟨A, s14, rfl, hA, hF, hAA, hO⟩
  have hr := exM_go hr
  refine HT.seq ?_
  refine HT.text (l := ⟨_, true, .raw (.bool true)⟩ :: []) (tl := []) (by kernel_rfl) (by kernel_rfl) (by kernel_rfl) ?_ ?_
  ·exact
    Obls.p (fun R' w' hw hs hd => of_assign rfl) <|
    Obls.nil
  intro R w hw hs hF'
  have h2 : R 2 = .bool true := hF' 0 _ _ rfl rfl rfl
  replace hO := hO.fr hw
  replace hA := hA.fr hw.size
  replace hF := hF.trans hw
  clear hs hF' hw
  refine seqR_nil ?_
  refine HT.ret ?_
  obtain rfl := Option.some.inj hr
  exact ⟨.inr rfl, [R 2], ⟨rfl, trivial⟩, h2, hF⟩
def M_impl_NewSetIndex (fu : Nat) (p0 : List T_impl_TokenCount) (p1 : Int) : Option (T_impl_SetIndex × Bool) :=
 cl true (M_slices_Clone_impl_TokenCount_impl_TokenCount fu p0) fun x3 =>
 cl true (M_impl_IsValidSetIndex fu (p1, x3, ([] : List T_impl_IndexedSet))) fun x16 =>
 bif (!x16) then (
  some (((0 : Int), ([] : List T_impl_TokenCount), ([] : List T_impl_IndexedSet)), false)
 ) else (
  some ((p1, x3, ([] : List T_impl_IndexedSet)), true)
 )
set_option linter.unusedSimpArgs false in
theorem M_impl_NewSetIndex_ok {fu : Nat} {A0 : Av} {p0 : List T_impl_TokenCount} {p1 : Int} {r : T_impl_SetIndex × Bool} (hr : M_impl_NewSetIndex fu p0 p1 = some r) {w : World} {v0 : Value} {v1 : Value} (hA : AvOK A0 w) (h0 : Rep (eSl E_impl_TokenCount) A0 w v0 p0) (h1 : v1 = .int .i64 p1) :
  Calls Try.prog 39 #[v0, v1] w fun e w' => ∃ v, e = .returned v ∧ (∃ (u0 : Value) (S0 : Nat → Prop) (A1 : Av), GPost A0 (fun _ => False) w [⟨u0, S0, trR (geB w.heap.size) (oPr (oRd (eInt .i64)) (oPr (oSl 76 (oRd E_impl_TokenCount)) (oSl 91 (oPr (oRd (eInt .i64)) (oSl 9 (oRd eStr)))))) r.1 []⟩] A1 w' ∧ (Fact.tup2 (.raw u0) (.raw (.bool r.2))).ok v w') := by
 unfold M_impl_NewSetIndex at hr
 obtain ⟨w0, hw0⟩ : ∃ w0, w0 = w := ⟨_, rfl⟩
 have hF : Fr w0 w := hw0 ▸ Fr.refl _
 have hA0 : ∀ b o, A0 b o → b < w0.heap.size := fun b o h => hw0 ▸ hA b o h
 have hA00 : AvOK A0 w0 := hA0
 rw [show GPost A0 (fun _ => False) w = GPost A0 (fun _ => False) w0 from by rw [hw0]]
 rw [show w.heap.size = w0.heap.size from by rw [hw0]]
 clear hw0
 obtain ⟨A, hAe⟩ : ∃ A, A = A0 := ⟨_, rfl⟩
 have hAA : ∀ b o, A0 b o → A b o := fun b o h => hAe ▸ h
 replace hA : AvOK A w := hAe ▸ hA
 have hO : IniOK [] A w := IniOK.nil
 refine calls_of_HT2 [.cell 4 49, .tmp 5] Try.func39 Try.ntmps39 (by decide) rfl rfl (Nat.le_of_ble_eq_true rfl) ?_
 intro R hR
 have f_v0 : Rep (eSl E_impl_TokenCount) A w v0 p0 := hAe ▸ h0
 replace h0 : R 0 = v0 := hR 0 _ rfl
 replace h1 : R 1 = .int .i64 p1 := (hR 1 _ rfl).trans h1
 clear hR hAe
 refine HT.seq ?_
 refine HT.textR [] (⟨_, true, [], some (trR (geB w0.heap.size) (oPt 49 (oPr (oRd (eInt .i64)) (oPr (oSl 76 (oRd E_impl_TokenCount)) (oSl 91 (oPr (oRd (eInt .i64)) (oSl 9 (oRd eStr))))))) ((0 : Int), (([] : List T_impl_TokenCount), ([] : List T_impl_IndexedSet))) []), true, fun A => .any⟩ :: ⟨_, true, [], none, true, fun A => .raw (.bool false)⟩ :: []) (by kernel_rfl) (by kernel_rfl) (Wf.mk' (by kernel_rfl) (UAll.cons ust_any (UAll.cons ust_raw (UAll.nil))) (by kernel_rfl) (by kernel_rfl)) hO hA ?_ ?_
 ·exact
   OblsR.cons (OblR.madeS _ rfl rfl rfl rfl fun A' R' w' ho hd => by exact made_allocT Try.zeroValue49 (fun A w => own_pr (own_rd rep1_int) (own_pr own_nil own_nil)) (fun k hk => Nat.le_trans (Nat.le_trans hF.size ho.ch.size) hk)) <|
   OblsR.p (fun A' R' w' ho hd => of_assign rfl) <|
   OblsR.nil
 intro done ρ σ A R w hdn hI
 replace h0 : R 0 = v0 := (hI.reg rfl).trans h0
 replace h1 : R 1 = .int .i64 p1 := (hI.reg rfl).trans h1
 obtain ⟨u1, e_u1⟩ : ∃ u, ρ 0 = u := ⟨_, rfl⟩
 have h4 : R 4 = u1 := (hI.opvR hdn 0 0 rfl rfl rfl rfl rfl).symm.trans e_u1
 obtain ⟨S2, eS_u1⟩ : ∃ S, σ 0 = S := ⟨_, rfl⟩
 replace f_v0 := f_v0.stp hI.stp
 replace hAA := hI.low' hAA hA0 (hO.ge (trivial))
 replace hF : Fr w0 w := hF.tr hI.ch (hO.ge (trivial))
 replace hO : IniOK [⟨u1, S2, trR (geB w0.heap.size) (oPt 49 (oPr (oRd (eInt .i64)) (oPr (oSl 76 (oRd E_impl_TokenCount)) (oSl 91 (oPr (oRd (eInt .i64)) (oSl 9 (oRd eStr))))))) ((0 : Int), (([] : List T_impl_TokenCount), ([] : List T_impl_IndexedSet))) []⟩] A w := hI.left hdn [(0, ⟨u1, S2, trR (geB w0.heap.size) (oPt 49 (oPr (oRd (eInt .i64)) (oPr (oSl 76 (oRd E_impl_TokenCount)) (oSl 91 (oPr (oRd (eInt .i64)) (oSl 9 (oRd eStr))))))) ((0 : Int), (([] : List T_impl_TokenCount), ([] : List T_impl_IndexedSet))) []⟩)] ⟨rfl, rfl, e_u1, eS_u1, rfl, trivial⟩
 replace hA := hI.avok
 clear hI
 refine HT.seq ?_
 refine SG.of ?_
 obtain ⟨x3, q4, hr⟩ := cl_some hr
 refine SG.textR [⟨u1, S2, trR (geB w0.heap.size) (oPt 49 (oPr (oRd (eInt .i64)) (oPr (oSl 76 (oRd E_impl_TokenCount)) (oSl 91 (oPr (oRd (eInt .i64)) (oSl 9 (oRd eStr))))))) ((0 : Int), (([] : List T_impl_TokenCount), ([] : List T_impl_IndexedSet))) []⟩] (⟨_, true, [], none, true, fun A => .raw (.int .i64 p1)⟩ :: ⟨_, true, [], none, true, fun A => .raw v0⟩ :: ⟨_, true, [], some (.vec w0.heap.size 76 E_impl_TokenCount x3), true, fun A => .any⟩ :: []) 3 rfl rfl rfl (by kernel_rfl) (by kernel_rfl) (Wf.mk' (by kernel_rfl) (UAll.cons ust_raw (UAll.cons ust_raw (UAll.cons ust_any (UAll.nil)))) (by kernel_rfl) (by kernel_rfl)) hO hA (trivial) ?_ ?_
 ·exact
   OblsR.p (fun A' R' w' ho hd => of_move ((ho.old 1 rfl).trans h1)) <|
   OblsR.p (fun A' R' w' ho hd => of_move ((ho.old 0 rfl).trans h0)) <|
   OblsR.cons (OblR.made _ rfl rfl rfl rfl fun A' R' w' ho hd => by have a0 : R' 8 = v0 := hd.g 0 rfl; have ra0 := (f_v0.stp ho.stp).eq a0; exact made_call Try.call86 (M_slices_Clone_impl_TokenCount_impl_TokenCount_ok (q4 rfl) ho.av ra0) (Nat.le_trans hF.size ho.ch.size)) <|
   OblsR.nil
 intro done ρ σ A R w hdn hI
 replace h4 : R 4 = u1 := (hI.reg rfl).trans h4
 have z5 := hI.inivR 0 rfl
 obtain ⟨u6, e_u6⟩ : ∃ u, ρ 3 = u := ⟨_, rfl⟩
 have h9 : R 9 = u6 := (hI.opvR hdn 3 2 rfl rfl rfl rfl rfl).symm.trans e_u6
 have eS_u1 := hI.inisR 0 rfl
 have h7 : R 7 = .int .i64 p1 := hI.fact hdn (i := 0) rfl rfl rfl
 replace hAA := hI.low' hAA hA0 (hO.ge (⟨fun _ h => h, trivial⟩))
 replace hF : Fr w0 w := hF.tr hI.ch (hO.ge (⟨fun _ h => h, trivial⟩))
 replace hO : IniOK [⟨u1, S2, trR (geB w0.heap.size) (oPt 49 (oPr (oRd (eInt .i64)) (oPr (oSl 76 (oRd E_impl_TokenCount)) (oSl 91 (oPr (oRd (eInt .i64)) (oSl 9 (oRd eStr))))))) ((0 : Int), (([] : List T_impl_TokenCount), ([] : List T_impl_IndexedSet))) []⟩, ob u6 (.vec w0.heap.size 76 E_impl_TokenCount x3)] A w := hI.left hdn [(0, ⟨u1, S2, trR (geB w0.heap.size) (oPt 49 (oPr (oRd (eInt .i64)) (oPr (oSl 76 (oRd E_impl_TokenCount)) (oSl 91 (oPr (oRd (eInt .i64)) (oSl 9 (oRd eStr))))))) ((0 : Int), (([] : List T_impl_TokenCount), ([] : List T_impl_IndexedSet))) []⟩), (3, ob u6 (.vec w0.heap.size 76 E_impl_TokenCount x3))] ⟨rfl, rfl, z5, eS_u1, rfl, ⟨rfl, rfl, e_u6, rfl, rfl, trivial⟩⟩
 replace hA := hI.avok
 clear hI
 obtain ⟨g7c, g7e, g7o⟩ := own_of_vec' (hO.ok 1 _ rfl).1 (hO.own 1 _ rfl)
 obtain ⟨g7a, g7n, g7k, rfl⟩ := own_sl_cell g7o
 replace g7e : u6 = .slice g7a g7n g7k := g7e
 refine SG.op 10 rfl rfl rfl rfl (K := fun v w' => v = .agg #[.int .i64 p1, .slice g7a g7n g7k, .slice none 0 0] ∧ w' = w) (opr_val (v := .agg #[.int .i64 p1, .slice g7a g7n g7k, .slice none 0 0]) (w' := w) (by simp [execOp, Instr.build, evalR, h7, (h9.trans g7e), underlying, Try.underlying49, Try.zeroValue49, Try.sizeOf27, Try.sizeOf3, Try.sizeOf47, go_sem, Instr.fill, Enc.val]) ⟨rfl, rfl⟩) ?_
 rintro v_ w1 ⟨rfl, hw_⟩ R hs hd
 obtain rfl : w = w1 := hw_.symm
 have hst : Stp A A w w := (Fr.refl w).stp A
 obtain ⟨u8, h10⟩ : ∃ u, R 10 = u := ⟨_, rfl⟩
 replace hO := hO.join [(0, ⟨u1, S2, trR (geB w0.heap.size) (oPt 49 (oPr (oRd (eInt .i64)) (oPr (oSl 76 (oRd E_impl_TokenCount)) (oSl 91 (oPr (oRd (eInt .i64)) (oSl 9 (oRd eStr))))))) ((0 : Int), (([] : List T_impl_TokenCount), ([] : List T_impl_IndexedSet))) []⟩)] ⟨rfl, rfl, trivial⟩ ⟨u8, _, trR (geB w0.heap.size) (oPr (oRd (eInt .i64)) (oPr (oSl 76 (oRd E_impl_TokenCount)) (oSl 91 (oPr (oRd (eInt .i64)) (oSl 9 (oRd eStr)))))) (p1, x3, ([] : List T_impl_IndexedSet)) []⟩ trivial ⟨(fun k hk => vec_ge (hO.ok 1 _ rfl).1 (hO.own 1 _ rfl) k hk), ⟨_, (h10.symm.trans hd), (own_prR (own_rd rep1_int) (own_prL g7o own_nil) : (oPr (oRd (eInt .i64)) (oPr (oSl 76 (oRd E_impl_TokenCount)) (oSl 91 (oPr (oRd (eInt .i64)) (oSl 9 (oRd eStr)))))).own A _ _ (p1, x3, ([] : List T_impl_IndexedSet)) _)⟩, fun q hq => by cases hq⟩ (fun k hk => ⟨1, _, rfl, hk, rfl⟩)
 obtain ⟨S9, e_S9⟩ : ∃ S, S = ownsB u6 := ⟨_, rfl⟩
 replace hO : IniOK [⟨u8, S9, trR (geB w0.heap.size) (oPr (oRd (eInt .i64)) (oPr (oSl 76 (oRd E_impl_TokenCount)) (oSl 91 (oPr (oRd (eInt .i64)) (oSl 9 (oRd eStr)))))) (p1, x3, ([] : List T_impl_IndexedSet)) []⟩, ⟨u1, S2, trR (geB w0.heap.size) (oPt 49 (oPr (oRd (eInt .i64)) (oPr (oSl 76 (oRd E_impl_TokenCount)) (oSl 91 (oPr (oRd (eInt .i64)) (oSl 9 (oRd eStr))))))) ((0 : Int), (([] : List T_impl_TokenCount), ([] : List T_impl_IndexedSet))) []⟩] A _ := e_S9 ▸ hO
 replace h4 := (hs 4 rfl).trans h4
 replace h7 := (hs 7 rfl).trans h7
 clear hs hd hst
 refine SG.textR [⟨u8, S9, trR (geB w0.heap.size) (oPr (oRd (eInt .i64)) (oPr (oSl 76 (oRd E_impl_TokenCount)) (oSl 91 (oPr (oRd (eInt .i64)) (oSl 9 (oRd eStr)))))) (p1, x3, ([] : List T_impl_IndexedSet)) []⟩, ⟨u1, S2, trR (geB w0.heap.size) (oPt 49 (oPr (oRd (eInt .i64)) (oPr (oSl 76 (oRd E_impl_TokenCount)) (oSl 91 (oPr (oRd (eInt .i64)) (oSl 9 (oRd eStr))))))) ((0 : Int), (([] : List T_impl_TokenCount), ([] : List T_impl_IndexedSet))) []⟩] (⟨_, true, [], none, true, fun A => .raw (.int .i64 p1)⟩ :: ⟨_, true, [], none, true, fun A => .any⟩ :: ⟨_, true, [], none, true, fun A => .any⟩ :: ⟨_, true, [], none, true, fun A => .raw u8⟩ :: ⟨_, true, [], some (trR (geB w0.heap.size) (oPt 49 (oPr (oRd (eInt .i64)) (oPr (oSl 76 (oRd E_impl_TokenCount)) (oSl 91 (oPr (oRd (eInt .i64)) (oSl 9 (oRd eStr))))))) ((0 : Int), (([] : List T_impl_TokenCount), ([] : List T_impl_IndexedSet))) []), true, fun A => .any⟩ :: ⟨_, true, [6, 0], some (trR (geB w0.heap.size) (oPt 49 (oPr (oRd (eInt .i64)) (oPr (oSl 76 (oRd E_impl_TokenCount)) (oSl 91 (oPr (oRd (eInt .i64)) (oSl 9 (oRd eStr))))))) (p1, x3, ([] : List T_impl_IndexedSet)) []), false, fun A => .any⟩ :: []) 6 rfl rfl rfl (by kernel_rfl) (by kernel_rfl) (Wf.mk' (by kernel_rfl) (UAll.cons ust_raw (UAll.cons ust_any (UAll.cons ust_any (UAll.cons ust_raw (UAll.cons ust_any (UAll.cons ust_any (UAll.nil))))))) (by kernel_rfl) (by kernel_rfl)) hO hA (⟨⟨rfl, rfl, rfl, h7⟩, ⟨⟨rfl, rfl, rfl, trivial⟩, ⟨⟨rfl, rfl, rfl, trivial⟩, ⟨⟨rfl, rfl, rfl, h10⟩, trivial⟩⟩⟩⟩) ?_ ?_
 ·exact
   OblsR.cons (OblR.madeS _ rfl rfl rfl rfl fun A' R' w' ho hd => by exact made_allocT Try.zeroValue49 (fun A w => own_pr (own_rd rep1_int) (own_pr own_nil own_nil)) (fun k hk => Nat.le_trans (Nat.le_trans hF.size ho.ch.size) hk)) <|
   OblsR.cons (OblR.tookM 6 [0] _ rfl rfl rfl rfl fun A' R' w' ho hd ρ σ hok hav hin hop hds hdd => by have a1 : R' 10 = u8 := hd.g 1 rfl; have k1 := hok 6 (.head _) _ rfl; exact took_put2 rfl (tr_root k1.2.2).ptr (hok 0 (.tail _ (.head _)) _ rfl).2.2.1 (a1.trans (hin 0 (.tail _ (.head _)) _ rfl).1.symm) (hop 6 (.head _) _ _ rfl rfl rfl rfl).symm hav hdd k1.2.1 (hok 0 (.tail _ (.head _)) _ rfl).2.1 Try.sizeOf49 (fun _ _ _ h => h)) <|
   OblsR.nil
 intro done ρ σ A R w hdn hI
 replace h4 : R 4 = u1 := (hI.reg rfl).trans h4
 have z10 := hI.inivR 1 rfl
 obtain ⟨u11, e_u11⟩ : ∃ u, ρ 7 = u := ⟨_, rfl⟩
 have z12 := (hI.opnR hdn 7 5 rfl rfl rfl rfl rfl).symm.trans e_u11
 have h6 : R 6 = u11 := (hI.opvR hdn 6 4 rfl rfl rfl rfl rfl).symm.trans z12
 have eS_u1 := hI.inisR 1 rfl
 obtain ⟨S13, eS_u11⟩ : ∃ S, σ 7 = S := ⟨_, rfl⟩
 replace hAA := hI.low' hAA hA0 (hO.ge (⟨fun _ h => h, ⟨fun _ h => h, trivial⟩⟩))
 replace hF : Fr w0 w := hF.tr hI.ch (hO.ge (⟨fun _ h => h, ⟨fun _ h => h, trivial⟩⟩))
 replace hO : IniOK [⟨u1, S2, trR (geB w0.heap.size) (oPt 49 (oPr (oRd (eInt .i64)) (oPr (oSl 76 (oRd E_impl_TokenCount)) (oSl 91 (oPr (oRd (eInt .i64)) (oSl 9 (oRd eStr))))))) ((0 : Int), (([] : List T_impl_TokenCount), ([] : List T_impl_IndexedSet))) []⟩, ⟨u11, S13, trR (geB w0.heap.size) (oPt 49 (oPr (oRd (eInt .i64)) (oPr (oSl 76 (oRd E_impl_TokenCount)) (oSl 91 (oPr (oRd (eInt .i64)) (oSl 9 (oRd eStr))))))) (p1, x3, ([] : List T_impl_IndexedSet)) []⟩] A w := hI.left hdn [(1, ⟨u1, S2, trR (geB w0.heap.size) (oPt 49 (oPr (oRd (eInt .i64)) (oPr (oSl 76 (oRd E_impl_TokenCount)) (oSl 91 (oPr (oRd (eInt .i64)) (oSl 9 (oRd eStr))))))) ((0 : Int), (([] : List T_impl_TokenCount), ([] : List T_impl_IndexedSet))) []⟩), (7, ⟨u11, S13, trR (geB w0.heap.size) (oPt 49 (oPr (oRd (eInt .i64)) (oPr (oSl 76 (oRd E_impl_TokenCount)) (oSl 91 (oPr (oRd (eInt .i64)) (oSl 9 (oRd eStr))))))) (p1, x3, ([] : List T_impl_IndexedSet)) []⟩)] ⟨rfl, rfl, z10, eS_u1, rfl, ⟨rfl, rfl, e_u11, eS_u11, rfl, trivial⟩⟩
 replace hA := hI.avok
 clear hI
 refine SG.fin rfl ?_
 refine HT.seq ?_
 refine HT.seq ?_
 obtain ⟨h14, l_h14, p_h14⟩ := ((tr_root (hO.own 1 _ rfl).2).ptr).open
 replace hO : IniOK [⟨u1, S2, trR (geB w0.heap.size) (oPt 49 (oPr (oRd (eInt .i64)) (oPr (oSl 76 (oRd E_impl_TokenCount)) (oSl 91 (oPr (oRd (eInt .i64)) (oSl 9 (oRd eStr))))))) ((0 : Int), (([] : List T_impl_TokenCount), ([] : List T_impl_IndexedSet))) []⟩, ⟨u11, S13, trR (geB w0.heap.size) (oPt 49 (oPr (oRd (eInt .i64)) (oPr (oSl 76 (oRd E_impl_TokenCount)) (oSl 91 (oPr (oRd (eInt .i64)) (oSl 9 (oRd eStr))))))) (p1, x3, ([] : List T_impl_IndexedSet)) [(u11, h14)]⟩] A w := hO.repin 1 rfl (trP.pin p_h14)
 obtain ⟨x16, q17, hr⟩ := cl_some hr
 refine HT.text (l := ⟨_, true, .raw (Enc.val E_impl_SetIndex h14)⟩ :: ⟨_, true, .raw (.bool x16)⟩ :: ⟨_, true, .raw (.bool (!x16))⟩ :: []) (tl := []) (by kernel_rfl) (by kernel_rfl) (by kernel_rfl) ?_ ?_
 ·exact
   Obls.p (fun R' w' hw hs hd => of_load_pinS (F := oPr (oRd (eInt .i64)) (oPr (oSl 76 (oRd E_impl_TokenCount)) (oSl 91 (oPr (oRd (eInt .i64)) (oSl 9 (oRd eStr)))))) (((hO.fr hw).own 1 _ rfl).2.2 _ (.head _)) l_h14 ((hs 6 rfl).trans h6) Try.isAgg49 Try.sizeOf49) <|
   Obls.p (fun R' w' hw hs hd => by have a0 : R' 11 = (Enc.val E_impl_SetIndex h14) := hd.g 0 rfl; have ra0 : Rep E_impl_SetIndex A0 w' (R' 11) _ := (vh_rep (((tr_root ((hO.fr hw).own 1 _ rfl).2).ptr).pinS (((hO.fr hw).own 1 _ rfl).2.2 _ (.head _)) l_h14) hAA (fun k o hk ha => Nat.not_lt.2 (((hO.fr hw).own 1 _ rfl).1 k hk) (hA0 k o ha))).eq a0; exact of_call Try.call36 (M_impl_IsValidSetIndex_ok (q17 rfl) (hA00.fr ((Nat.le_trans hF.size hw.size))) ra0)) <|
   Obls.p (fun R' w' hw hs hd => by have a0 : R' 12 = .bool x16 := hd.g 0 rfl; exact of_not a0) <|
   Obls.nil
 intro R w hw hs hF'
 replace h4 := (hs 4 rfl).trans h4
 replace h6 := (hs 6 rfl).trans h6
 have h13 : R 13 = .bool (!x16) := hF' 2 _ _ rfl rfl rfl
 replace hO := hO.fr hw
 replace hA := hA.fr hw.size
 replace hF := hF.trans hw
 clear hs hF' hw
 refine seqR_nil ?_
 replace hO : IniOK [⟨u1, S2, trR (geB w0.heap.size) (oPt 49 (oPr (oRd (eInt .i64)) (oPr (oSl 76 (oRd E_impl_TokenCount)) (oSl 91 (oPr (oRd (eInt .i64)) (oSl 9 (oRd eStr))))))) ((0 : Int), (([] : List T_impl_TokenCount), ([] : List T_impl_IndexedSet))) []⟩, ⟨u11, S13, trR (geB w0.heap.size) (oPt 49 (oPr (oRd (eInt .i64)) (oPr (oSl 76 (oRd E_impl_TokenCount)) (oSl 91 (oPr (oRd (eInt .i64)) (oSl 9 (oRd eStr))))))) (p1, x3, ([] : List T_impl_IndexedSet)) []⟩] A w := hO.repin 1 rfl trP.nopin
 refine HT.cond (!x16) h13 (fun c18 => ?_) (fun c18 => ?_)
 ·have hr := cnd_t c18 hr
  refine HT.seq ?_
  refine SG.of ?_
  replace hO : IniOK [⟨u1, S2, trR (geB w0.heap.size) (oPt 49 (oPr (oRd (eInt .i64)) (oPr (oSl 76 (oRd E_impl_TokenCount)) (oSl 91 (oPr (oRd (eInt .i64)) (oSl 9 (oRd eStr))))))) ((0 : Int), (([] : List T_impl_TokenCount), ([] : List T_impl_IndexedSet))) []⟩] A w := hO.sub [(0, ⟨u1, S2, trR (geB w0.heap.size) (oPt 49 (oPr (oRd (eInt .i64)) (oPr (oSl 76 (oRd E_impl_TokenCount)) (oSl 91 (oPr (oRd (eInt .i64)) (oSl 9 (oRd eStr))))))) ((0 : Int), (([] : List T_impl_TokenCount), ([] : List T_impl_IndexedSet))) []⟩)] ⟨rfl, rfl, trivial⟩
  refine SG.op 14 rfl rfl rfl rfl (K := fun v w' => v = .agg #[.int .i64 0, .slice none 0 0, .slice none 0 0] ∧ w' = w) (opr_val (v := .agg #[.int .i64 0, .slice none 0 0, .slice none 0 0]) (w' := w) (by simp [execOp, Instr.build, evalR, underlying, Try.underlying49, Try.zeroValue49, Try.sizeOf27, Try.sizeOf3, Try.sizeOf47, go_sem, Instr.fill, Enc.val]) ⟨rfl, rfl⟩) ?_
  rintro v_ w1 ⟨rfl, hw_⟩ R hs hd
  obtain rfl : w = w1 := hw_.symm
  have hst : Stp A A w w := (Fr.refl w).stp A
  obtain ⟨u19, h14⟩ : ∃ u, R 14 = u := ⟨_, rfl⟩
  replace hO := hO.join [(0, ⟨u1, S2, trR (geB w0.heap.size) (oPt 49 (oPr (oRd (eInt .i64)) (oPr (oSl 76 (oRd E_impl_TokenCount)) (oSl 91 (oPr (oRd (eInt .i64)) (oSl 9 (oRd eStr))))))) ((0 : Int), (([] : List T_impl_TokenCount), ([] : List T_impl_IndexedSet))) []⟩)] ⟨rfl, rfl, trivial⟩ ⟨u19, fun _ => False, trR (geB w0.heap.size) (oPr (oRd (eInt .i64)) (oPr (oSl 76 (oRd E_impl_TokenCount)) (oSl 91 (oPr (oRd (eInt .i64)) (oSl 9 (oRd eStr)))))) ((0 : Int), ([] : List T_impl_TokenCount), ([] : List T_impl_IndexedSet)) []⟩ trivial ⟨fun _ h => h.elim, ⟨_, (h14.symm.trans hd), (own_prR (own_rd rep1_int) (own_prR own_nil own_nil) : (oPr (oRd (eInt .i64)) (oPr (oSl 76 (oRd E_impl_TokenCount)) (oSl 91 (oPr (oRd (eInt .i64)) (oSl 9 (oRd eStr)))))).own A _ _ ((0 : Int), ([] : List T_impl_TokenCount), ([] : List T_impl_IndexedSet)) _)⟩, fun q hq => by cases hq⟩ (fun k hk => hk.elim)
  obtain ⟨S20, e_S20⟩ : ∃ S, S = fun (_ : Nat) => False := ⟨_, rfl⟩
  replace hO : IniOK [⟨u19, S20, trR (geB w0.heap.size) (oPr (oRd (eInt .i64)) (oPr (oSl 76 (oRd E_impl_TokenCount)) (oSl 91 (oPr (oRd (eInt .i64)) (oSl 9 (oRd eStr)))))) ((0 : Int), ([] : List T_impl_TokenCount), ([] : List T_impl_IndexedSet)) []⟩, ⟨u1, S2, trR (geB w0.heap.size) (oPt 49 (oPr (oRd (eInt .i64)) (oPr (oSl 76 (oRd E_impl_TokenCount)) (oSl 91 (oPr (oRd (eInt .i64)) (oSl 9 (oRd eStr))))))) ((0 : Int), (([] : List T_impl_TokenCount), ([] : List T_impl_IndexedSet))) []⟩] A _ := e_S20 ▸ hO
  replace h4 := (hs 4 rfl).trans h4
  clear hs hd hst
  refine SG.textR [⟨u19, S20, trR (geB w0.heap.size) (oPr (oRd (eInt .i64)) (oPr (oSl 76 (oRd E_impl_TokenCount)) (oSl 91 (oPr (oRd (eInt .i64)) (oSl 9 (oRd eStr)))))) ((0 : Int), ([] : List T_impl_TokenCount), ([] : List T_impl_IndexedSet)) []⟩, ⟨u1, S2, trR (geB w0.heap.size) (oPt 49 (oPr (oRd (eInt .i64)) (oPr (oSl 76 (oRd E_impl_TokenCount)) (oSl 91 (oPr (oRd (eInt .i64)) (oSl 9 (oRd eStr))))))) ((0 : Int), (([] : List T_impl_TokenCount), ([] : List T_impl_IndexedSet))) []⟩] (⟨_, true, [], none, true, fun A => .raw u19⟩ :: ⟨_, true, [1, 0], some (trR (geB w0.heap.size) (oPt 49 (oPr (oRd (eInt .i64)) (oPr (oSl 76 (oRd E_impl_TokenCount)) (oSl 91 (oPr (oRd (eInt .i64)) (oSl 9 (oRd eStr))))))) ((0 : Int), ([] : List T_impl_TokenCount), ([] : List T_impl_IndexedSet)) []), false, fun A => .any⟩ :: ⟨_, true, [], none, true, fun A => .raw (.bool false)⟩ :: []) 3 rfl rfl rfl (by kernel_rfl) (by kernel_rfl) (Wf.mk' (by kernel_rfl) (UAll.cons ust_raw (UAll.cons ust_any (UAll.cons ust_raw (UAll.nil)))) (by kernel_rfl) (by kernel_rfl)) hO hA (⟨⟨rfl, rfl, rfl, h14⟩, trivial⟩) ?_ ?_
  ·exact
    OblsR.cons (OblR.tookM 1 [0] _ rfl rfl rfl rfl fun A' R' w' ho hd ρ σ hok hav hin hop hds hdd => by have a0 : R' 4 = u1 := (ho.old 4 rfl).trans h4; have a1 : R' 14 = u19 := hd.g 0 rfl; have k1 := hok 1 (.head _) _ rfl; have e0 := (hin 1 (.head _) _ rfl).1; rw [e0] at k1 ⊢; exact took_put2 rfl (tr_root k1.2.2).ptr (hok 0 (.tail _ (.head _)) _ rfl).2.2.1 (a1.trans (hin 0 (.tail _ (.head _)) _ rfl).1.symm) a0 hav hdd k1.2.1 (hok 0 (.tail _ (.head _)) _ rfl).2.1 Try.sizeOf49 (fun _ _ _ h => h)) <|
    OblsR.p (fun A' R' w' ho hd => of_assign rfl) <|
    OblsR.nil
  intro done ρ σ A R w hdn hI
  replace h4 : R 4 = u1 := (hI.reg rfl).trans h4
  have z21 := hI.inivR 1 rfl
  have z22 := (hI.opnR hdn 3 1 rfl rfl rfl rfl rfl).trans z21
  obtain ⟨S23, eS_u1⟩ : ∃ S, σ 3 = S := ⟨_, rfl⟩
  have h5 : R 5 = .bool false := hI.fact hdn (i := 2) rfl rfl rfl
  replace hAA := hI.low' hAA hA0 (hO.ge (⟨fun _ h => h, ⟨fun _ h => h, trivial⟩⟩))
  replace hF : Fr w0 w := hF.tr hI.ch (hO.ge (⟨fun _ h => h, ⟨fun _ h => h, trivial⟩⟩))
  replace hO : IniOK [⟨u1, S23, trR (geB w0.heap.size) (oPt 49 (oPr (oRd (eInt .i64)) (oPr (oSl 76 (oRd E_impl_TokenCount)) (oSl 91 (oPr (oRd (eInt .i64)) (oSl 9 (oRd eStr))))))) ((0 : Int), ([] : List T_impl_TokenCount), ([] : List T_impl_IndexedSet)) []⟩] A w := hI.left hdn [(3, ⟨u1, S23, trR (geB w0.heap.size) (oPt 49 (oPr (oRd (eInt .i64)) (oPr (oSl 76 (oRd E_impl_TokenCount)) (oSl 91 (oPr (oRd (eInt .i64)) (oSl 9 (oRd eStr))))))) ((0 : Int), ([] : List T_impl_TokenCount), ([] : List T_impl_IndexedSet)) []⟩)] ⟨rfl, rfl, z22, eS_u1, rfl, trivial⟩
  replace hA := hI.avok
  clear hI
  refine SG.fin rfl ?_
  refine HT.ret ?_
  obtain rfl := Option.some.inj hr
  obtain ⟨v_4, S_4, e_4, hO⟩ := hO.unbox 0 rfl h4 Try.isAgg49 Try.sizeOf49
  obtain ⟨A1, hA1, hG1⟩ := GPost.of hO hA hAA (fun k hk => .inl (hO.ge (⟨fun _ h => h, trivial⟩) k hk)) (hF.ch (fun _ => False))
  exact ⟨.inr rfl, [v_4, R 5], ⟨e_4, ⟨rfl, trivial⟩⟩, v_4, S_4, A1, hG1, ⟨_, _, rfl, rfl, h5⟩⟩
 ·have hr := cnd_f c18 hr
  refine HT.skip ?_
  refine HT.seq ?_
  refine HT.textR [⟨u1, S2, trR (geB w0.heap.size) (oPt 49 (oPr (oRd (eInt .i64)) (oPr (oSl 76 (oRd E_impl_TokenCount)) (oSl 91 (oPr (oRd (eInt .i64)) (oSl 9 (oRd eStr))))))) ((0 : Int), (([] : List T_impl_TokenCount), ([] : List T_impl_IndexedSet))) []⟩, ⟨u11, S13, trR (geB w0.heap.size) (oPt 49 (oPr (oRd (eInt .i64)) (oPr (oSl 76 (oRd E_impl_TokenCount)) (oSl 91 (oPr (oRd (eInt .i64)) (oSl 9 (oRd eStr))))))) (p1, x3, ([] : List T_impl_IndexedSet)) []⟩] (⟨_, true, [1], some (trR (geB w0.heap.size) (oPr (oRd (eInt .i64)) (oPr (oSl 76 (oRd E_impl_TokenCount)) (oSl 91 (oPr (oRd (eInt .i64)) (oSl 9 (oRd eStr)))))) (p1, x3, ([] : List T_impl_IndexedSet)) []), true, fun A => .any⟩ :: ⟨_, true, [0, 2], some (trR (geB w0.heap.size) (oPt 49 (oPr (oRd (eInt .i64)) (oPr (oSl 76 (oRd E_impl_TokenCount)) (oSl 91 (oPr (oRd (eInt .i64)) (oSl 9 (oRd eStr))))))) (p1, x3, ([] : List T_impl_IndexedSet)) []), false, fun A => .any⟩ :: ⟨_, true, [], none, true, fun A => .raw (.bool true)⟩ :: []) (by kernel_rfl) (by kernel_rfl) (Wf.mk' (by kernel_rfl) (UAll.cons ust_any (UAll.cons ust_any (UAll.cons ust_raw (UAll.nil)))) (by kernel_rfl) (by kernel_rfl)) hO hA ?_ ?_
  ·exact
    OblsR.cons (OblR.tookS 1 _ _ rfl rfl rfl rfl rfl fun A' R' w' ho hd u S hok hown hav hin hop hds => by have a0 : R' 6 = u11 := (ho.old 6 rfl).trans h6; exact took_loadT hown.2 (a0.trans (hin _ rfl).1.symm) hav hown.1 Try.isAgg49 Try.sizeOf49) <|
    OblsR.cons (OblR.tookM 0 [2] _ rfl rfl rfl rfl fun A' R' w' ho hd ρ σ hok hav hin hop hds hdd => by have a0 : R' 4 = u1 := (ho.old 4 rfl).trans h4; have k1 := hok 0 (.head _) _ rfl; have e0 := (hin 0 (.head _) _ rfl).1; rw [e0] at k1 ⊢; exact took_put2 rfl (tr_root k1.2.2).ptr (hok 2 (.tail _ (.head _)) _ rfl).2.2.1 (hop 2 (.tail _ (.head _)) _ _ rfl rfl rfl rfl).symm a0 hav hdd k1.2.1 (hok 2 (.tail _ (.head _)) _ rfl).2.1 Try.sizeOf49 (fun _ _ _ h => h)) <|
    OblsR.p (fun A' R' w' ho hd => of_assign rfl) <|
    OblsR.nil
  intro done ρ σ A R w hdn hI
  replace h4 : R 4 = u1 := (hI.reg rfl).trans h4
  have z24 := hI.inivR 0 rfl
  have z25 := (hI.opnR hdn 3 1 rfl rfl rfl rfl rfl).trans z24
  obtain ⟨S26, eS_u1⟩ : ∃ S, σ 3 = S := ⟨_, rfl⟩
  have h5 : R 5 = .bool true := hI.fact hdn (i := 2) rfl rfl rfl
  replace hAA := hI.low' hAA hA0 (hO.ge (⟨fun _ h => h, ⟨fun _ h => h, trivial⟩⟩))
  replace hF : Fr w0 w := hF.tr hI.ch (hO.ge (⟨fun _ h => h, ⟨fun _ h => h, trivial⟩⟩))
  replace hO : IniOK [⟨u1, S26, trR (geB w0.heap.size) (oPt 49 (oPr (oRd (eInt .i64)) (oPr (oSl 76 (oRd E_impl_TokenCount)) (oSl 91 (oPr (oRd (eInt .i64)) (oSl 9 (oRd eStr))))))) (p1, x3, ([] : List T_impl_IndexedSet)) []⟩] A w := hI.left hdn [(3, ⟨u1, S26, trR (geB w0.heap.size) (oPt 49 (oPr (oRd (eInt .i64)) (oPr (oSl 76 (oRd E_impl_TokenCount)) (oSl 91 (oPr (oRd (eInt .i64)) (oSl 9 (oRd eStr))))))) (p1, x3, ([] : List T_impl_IndexedSet)) []⟩)] ⟨rfl, rfl, z25, eS_u1, rfl, trivial⟩
  replace hA := hI.avok
  clear hI
  refine HT.ret ?_
  obtain rfl := Option.some.inj hr
  obtain ⟨v_4, S_4, e_4, hO⟩ := hO.unbox 0 rfl h4 Try.isAgg49 Try.sizeOf49
  obtain ⟨A1, hA1, hG1⟩ := GPost.of hO hA hAA (fun k hk => .inl (hO.ge (⟨fun _ h => h, trivial⟩) k hk)) (hF.ch (fun _ => False))
  exact ⟨.inr rfl, [v_4, R 5], ⟨e_4, ⟨rfl, trivial⟩⟩, v_4, S_4, A1, hG1, ⟨_, _, rfl, rfl, h5⟩⟩
theorem M_impl_NewSetIndex_okR {fu : Nat} {A0 : Av} {p0 : List T_impl_TokenCount} {p1 : Int} {r : T_impl_SetIndex × Bool} (hr : M_impl_NewSetIndex fu p0 p1 = some r) {w : World} {v0 : Value} {v1 : Value} (hA : AvOK A0 w) (h0 : Rep (eSl E_impl_TokenCount) A0 w v0 p0) (h1 : v1 = .int .i64 p1) :
  Calls Try.prog 39 #[v0, v1] w fun e w' => ∃ v, e = .returned v ∧ ((∃ a b, v = .tuple #[a, b] ∧ Rep E_impl_SetIndex A0 w' a r.1 ∧ b = .bool r.2) ∧ Fr w w') := by
 refine Calls.mono (M_impl_NewSetIndex_ok hr hA h0 h1) ?_
 rintro e w' ⟨v, he, u0, S0, A1, hG, a0, a1, hv, e0, e1⟩
 exact ⟨v, he, ⟨a0, a1, hv, (tr_rep (hG.ini.own 0 _ rfl).2 hG.low (fun k o hk ha => Nat.not_lt.2 ((hG.ini.own 0 _ rfl).1 k hk) (hA k o ha))).eq e0, e1⟩, hG.ch.no⟩
def M_laws_eqTokenCount (fu : Nat) (p0 : T_impl_TokenCount) (p1 : T_impl_TokenCount) : Option Bool :=
 bif (!(p0.1 == p1.1)) then (
  some false
 ) else (
  bif (p0.2 != p1.2) then (
   some false
  ) else (
   some true
  )
 )
theorem M_laws_eqTokenCount_ok {fu : Nat} {A0 : Av} {p0 : T_impl_TokenCount} {p1 : T_impl_TokenCount} {r : Bool} (hr : M_laws_eqTokenCount fu p0 p1 = some r) {w : World} {v0 : Value} {v1 : Value} (hA : AvOK A0 w) (h0 : Rep E_impl_TokenCount A0 w v0 p0) (h1 : Rep E_impl_TokenCount A0 w v1 p1) :
  Calls Try.prog 68 #[v0, v1] w fun e w' => ∃ v, e = .returned v ∧ (v = .bool r ∧ Fr w w') := by
 unfold M_laws_eqTokenCount at hr
 obtain ⟨w0, hw0⟩ : ∃ w0, w0 = w := ⟨_, rfl⟩
 have hF : Fr w0 w := hw0 ▸ Fr.refl _
 have hA0 : ∀ b o, A0 b o → b < w0.heap.size := fun b o h => hw0 ▸ hA b o h
 have hA00 : AvOK A0 w0 := hA0
 rw [show Fr w = Fr w0 from hw0 ▸ rfl]
 clear hw0
 obtain ⟨A, hAe⟩ : ∃ A, A = A0 := ⟨_, rfl⟩
 have hAA : ∀ b o, A0 b o → A b o := fun b o h => hAe ▸ h
 replace hA : AvOK A w := hAe ▸ hA
 have hO : IniOK [] A w := IniOK.nil
 refine calls_of_HT2 [.tmp 4] Try.func68 Try.ntmps68 (by decide) rfl rfl (Nat.le_of_ble_eq_true rfl) ?_
 intro R hR
 have f_v0 : Rep E_impl_TokenCount A w v0 p0 := hAe ▸ h0
 replace h0 : R 0 = v0 := hR 0 _ rfl
 have f_v1 : Rep E_impl_TokenCount A w v1 p1 := hAe ▸ h1
 replace h1 : R 1 = v1 := hR 1 _ rfl
 clear hR hAe
 refine HT.seq ?_
 refine HT.textR [] (⟨_, true, [], some (.box w0.heap.size 76 E_impl_TokenCount p0), true, fun A => .any⟩ :: ⟨_, true, [], some (.box w0.heap.size 76 E_impl_TokenCount p1), true, fun A => .any⟩ :: ⟨_, true, [], none, true, fun A => .raw (.bool false)⟩ :: []) (by kernel_rfl) (by kernel_rfl) (Wf.mk' (by kernel_rfl) (UAll.cons ust_any (UAll.cons ust_any (UAll.cons ust_raw (UAll.nil)))) (by kernel_rfl) (by kernel_rfl)) hO hA ?_ ?_
 ·exact
   OblsR.cons (OblR.made _ rfl rfl rfl rfl fun A' R' w' ho hd => by have a0 : R' 0 = v0 := (ho.old 0 rfl).trans h0; have ra0 := (f_v0.stp ho.stp).eq a0; exact made_box ra0 (Nat.le_trans hF.size ho.ch.size)) <|
   OblsR.cons (OblR.made _ rfl rfl rfl rfl fun A' R' w' ho hd => by have a0 : R' 1 = v1 := (ho.old 1 rfl).trans h1; have ra0 := (f_v1.stp ho.stp).eq a0; exact made_box ra0 (Nat.le_trans hF.size ho.ch.size)) <|
   OblsR.p (fun A' R' w' ho hd => of_assign rfl) <|
   OblsR.nil
 intro done ρ σ A R w hdn hI
 obtain ⟨b2_0, e_b2_0⟩ := hI.boxv hdn 0 rfl rfl
 have h2 : R 2 = (.pointer (some ⟨b2_0, 0, none⟩)) := (hI.opvR hdn 0 0 rfl rfl rfl rfl rfl).symm.trans e_b2_0
 obtain ⟨b3_1, e_b3_1⟩ := hI.boxv hdn 1 rfl rfl
 have h3 : R 3 = (.pointer (some ⟨b3_1, 0, none⟩)) := (hI.opvR hdn 1 1 rfl rfl rfl rfl rfl).symm.trans e_b3_1
 replace hAA := hI.low' hAA hA0 (hO.ge (trivial))
 replace hF : Fr w0 w := hF.tr hI.ch (hO.ge (trivial))
 replace hO : IniOK [ob (.pointer (some ⟨b2_0, 0, none⟩)) (.box w0.heap.size 76 E_impl_TokenCount p0), ob (.pointer (some ⟨b3_1, 0, none⟩)) (.box w0.heap.size 76 E_impl_TokenCount p1)] A w := hI.left hdn [(0, ob (.pointer (some ⟨b2_0, 0, none⟩)) (.box w0.heap.size 76 E_impl_TokenCount p0)), (1, ob (.pointer (some ⟨b3_1, 0, none⟩)) (.box w0.heap.size 76 E_impl_TokenCount p1))] ⟨rfl, rfl, e_b2_0, rfl, rfl, ⟨rfl, rfl, e_b3_1, rfl, rfl, trivial⟩⟩
 replace hA := hI.avok
 clear hI
 refine HT.seq ?_
 refine HT.seq ?_
 refine HT.text (l := ⟨_, true, .raw (.pointer (some ⟨b2_0, 0, none⟩))⟩ :: ⟨_, true, .rep eStr A p0.1⟩ :: ⟨_, true, .raw (.pointer (some ⟨b3_1, 0, none⟩))⟩ :: ⟨_, true, .rep eStr A p1.1⟩ :: ⟨_, true, .raw (.bool (!(p0.1 == p1.1)))⟩ :: []) (tl := []) (by kernel_rfl) (by kernel_rfl) (by kernel_rfl) ?_ ?_
 ·exact
   Obls.p (fun R' w' hw hs hd => of_fieldAddr_raw ((hs 2 rfl).trans h2) ff_76_0 Try.sizeOf9 (by decide) rfl) <|
   Obls.p (fun R' w' hw hs hd => by have a0 : R' 5 = (.pointer (some ⟨b2_0, 0, none⟩)) := hd.g 0 rfl; exact (of_load_box ((hO.fr hw).ok 0 _ rfl).1 a0 fl_impl_TokenCount_0 rfl Try.isAgg9 Try.sizeOf9)) <|
   Obls.p (fun R' w' hw hs hd => of_fieldAddr_raw ((hs 3 rfl).trans h3) ff_76_0 Try.sizeOf9 (by decide) rfl) <|
   Obls.p (fun R' w' hw hs hd => by have a0 : R' 7 = (.pointer (some ⟨b3_1, 0, none⟩)) := hd.g 0 rfl; exact (of_load_box ((hO.fr hw).ok 1 _ rfl).1 a0 fl_impl_TokenCount_0 rfl Try.isAgg9 Try.sizeOf9)) <|
   Obls.p (fun R' w' hw hs hd => by have a0 : Rep eStr A w' (R' 6) p0.1 := hd.g 0 rfl; have a1 : Rep eStr A w' (R' 8) p1.1 := hd.g 1 rfl; exact of_sneq a0 a1) <|
   Obls.nil
 intro R w hw hs hF'
 replace h2 := (hs 2 rfl).trans h2
 replace h3 := (hs 3 rfl).trans h3
 have h9 : R 9 = .bool (!(p0.1 == p1.1)) := hF' 4 _ _ rfl rfl rfl
 replace hO := hO.fr hw
 replace hA := hA.fr hw.size
 replace hF := hF.trans hw
 clear hs hF' hw
 refine seqR_nil ?_
 refine HT.cond (!(p0.1 == p1.1)) h9 (fun c3 => ?_) (fun c3 => ?_)
 ·have hr := cnd_t c3 hr
  refine HT.seq ?_
  refine HT.text (l := ⟨_, true, .raw (.bool false)⟩ :: []) (tl := []) (by kernel_rfl) (by kernel_rfl) (by kernel_rfl) ?_ ?_
  ·exact
    Obls.p (fun R' w' hw hs hd => of_assign rfl) <|
    Obls.nil
  intro R w hw hs hF'
  have h4 : R 4 = .bool false := hF' 0 _ _ rfl rfl rfl
  replace hO := hO.fr hw
  replace hO : IniOK [] A w := hO.sub [] trivial
  replace hA := hA.fr hw.size
  replace hF := hF.trans hw
  clear hs hF' hw
  refine seqR_nil ?_
  refine HT.ret ?_
  obtain rfl := Option.some.inj hr
  exact ⟨.inr rfl, [R 4], ⟨rfl, trivial⟩, h4, hF⟩
 ·have hr := cnd_f c3 hr
  refine HT.skip ?_
  refine HT.seq ?_
  refine HT.seq ?_
  refine HT.text (l := ⟨_, true, .raw (.pointer (some ⟨b2_0, 1, none⟩))⟩ :: ⟨_, true, .raw (.int .i64 p0.2)⟩ :: ⟨_, true, .raw (.pointer (some ⟨b3_1, 1, none⟩))⟩ :: ⟨_, true, .raw (.int .i64 p1.2)⟩ :: ⟨_, true, .raw (.bool (p0.2 != p1.2))⟩ :: []) (tl := []) (by kernel_rfl) (by kernel_rfl) (by kernel_rfl) ?_ ?_
  ·exact
    Obls.p (fun R' w' hw hs hd => of_fieldAddr_raw ((hs 2 rfl).trans h2) ff_76_1 Try.sizeOf3 (by decide) rfl) <|
    Obls.p (fun R' w' hw hs hd => by have a0 : R' 10 = (.pointer (some ⟨b2_0, 1, none⟩)) := hd.g 0 rfl; exact OpF.int (of_load_box ((hO.fr hw).ok 0 _ rfl).1 a0 fl_impl_TokenCount_1 rfl Try.isAgg3 Try.sizeOf3)) <|
    Obls.p (fun R' w' hw hs hd => of_fieldAddr_raw ((hs 3 rfl).trans h3) ff_76_1 Try.sizeOf3 (by decide) rfl) <|
    Obls.p (fun R' w' hw hs hd => by have a0 : R' 12 = (.pointer (some ⟨b3_1, 1, none⟩)) := hd.g 0 rfl; exact OpF.int (of_load_box ((hO.fr hw).ok 1 _ rfl).1 a0 fl_impl_TokenCount_1 rfl Try.isAgg3 Try.sizeOf3)) <|
    Obls.p (fun R' w' hw hs hd => by have a0 : R' 11 = .int .i64 p0.2 := hd.g 0 rfl; have a1 : R' 13 = .int .i64 p1.2 := hd.g 1 rfl; exact of_neq a0 a1) <|
    Obls.nil
  intro R w hw hs hF'
  have h14 : R 14 = .bool (p0.2 != p1.2) := hF' 4 _ _ rfl rfl rfl
  replace hO := hO.fr hw
  replace hO : IniOK [] A w := hO.sub [] trivial
  replace hA := hA.fr hw.size
  replace hF := hF.trans hw
  clear hs hF' hw
  refine seqR_nil ?_
  refine HT.cond (p0.2 != p1.2) h14 (fun c4 => ?_) (fun c4 => ?_)
  ·have hr := cnd_t c4 hr
   refine HT.seq ?_
   refine HT.text (l := ⟨_, true, .raw (.bool false)⟩ :: []) (tl := []) (by kernel_rfl) (by kernel_rfl) (by kernel_rfl) ?_ ?_
   ·exact
     Obls.p (fun R' w' hw hs hd => of_assign rfl) <|
     Obls.nil
   intro R w hw hs hF'
   have h4 : R 4 = .bool false := hF' 0 _ _ rfl rfl rfl
   replace hO := hO.fr hw
   replace hA := hA.fr hw.size
   replace hF := hF.trans hw
   clear hs hF' hw
   refine seqR_nil ?_
   refine HT.ret ?_
   obtain rfl := Option.some.inj hr
   exact ⟨.inr rfl, [R 4], ⟨rfl, trivial⟩, h4, hF⟩
  ·have hr := cnd_f c4 hr
   refine HT.skip ?_
   refine HT.seq ?_
   refine HT.text (l := ⟨_, true, .raw (.bool true)⟩ :: []) (tl := []) (by kernel_rfl) (by kernel_rfl) (by kernel_rfl) ?_ ?_
   ·exact
     Obls.p (fun R' w' hw hs hd => of_assign rfl) <|
     Obls.nil
   intro R w hw hs hF'
   have h4 : R 4 = .bool true := hF' 0 _ _ rfl rfl rfl
   replace hO := hO.fr hw
   replace hA := hA.fr hw.size
   replace hF := hF.trans hw
   clear hs hF' hw
   refine seqR_nil ?_
   refine HT.ret ?_
   obtain rfl := Option.some.inj hr
   exact ⟨.inr rfl, [R 4], ⟨rfl, trivial⟩, h4, hF⟩
end Go.Proofs.Ytfcocbokgfmjfaa
