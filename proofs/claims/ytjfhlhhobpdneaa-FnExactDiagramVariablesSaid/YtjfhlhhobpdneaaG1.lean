/- Printed by dec.py: plain functions and the proofs that the code computes them. No statement of the seat is proved here. -/
import Derived.Test.YtjfhlhhobpdneaaSot
namespace Go.Proofs.Ytjfhlhhobpdneaa
open Go.RowKit
set_option linter.unusedVariables false
set_option maxRecDepth 100000
set_option maxHeartbeats 4000000
def M_laws_szTestS (fu : Nat) (p0 : List T_impl_Test) (p1 : Int) : Option Int :=
 ck (i64B (p1 - (p0.length : Int))) <|
 bif (decide ((p1 - (p0.length : Int)) < (0 : Int))) then (
  some (-1 : Int)
 ) else (
  some (p1 - (p0.length : Int))
 )
theorem M_laws_szTestS_ok {fu : Nat} {A : Av} {p0 : List T_impl_Test} {p1 : Int} {r : Int} (hr : M_laws_szTestS fu p0 p1 = some r) {w : World} {v0 : Value} {v1 : Value} (hA : AvOK A w) (h0 : Rep (eSl E_impl_Test) A w v0 p0) (h1 : v1 = .int .i64 p1) :
  Calls Try.prog 61 #[v0, v1] w fun e w' => ∃ v, e = .returned v ∧ (v = .int .i64 r ∧ Fr w w') := by
 unfold M_laws_szTestS at hr
 obtain ⟨w0, hw0⟩ : ∃ w0, w0 = w := ⟨_, rfl⟩
 have hF : Fr w0 w := hw0 ▸ Fr.refl _
 rw [show Fr w = Fr w0 from hw0 ▸ rfl]
 clear hw0
 refine calls_of_HT2 [.tmp 4] Try.func61 Try.ntmps61 (by decide) rfl rfl (Nat.le_of_ble_eq_true rfl) ?_
 intro R hR
 have f_v0 := h0
 replace h0 : R 0 = v0 := hR 0 _ rfl
 replace h1 : R 1 = .int .i64 p1 := (hR 1 _ rfl).trans h1
 clear hR
 refine HT.seq ?_
 refine HT.text (l := ⟨_, true, .raw (.int .i64 (0 : Int))⟩ :: []) (tl := []) (by kernel_rfl) (by kernel_rfl) (by kernel_rfl) ?_ ?_
 ·exact
   Obls.p (fun R' w' hw hs hd => of_assign rfl) <|
   Obls.nil
 intro R w hw hs hF'
 replace h0 := (hs 0 rfl).trans h0
 replace h1 := (hs 1 rfl).trans h1
 replace f_v0 := f_v0.fr hw
 replace hA := hA.fr hw.size
 replace hF := hF.trans hw
 clear hs hF' hw
 refine seqR_nil ?_
 refine HT.seq ?_
 obtain ⟨e1, hr⟩ := ck_some hr
 refine HT.text (l := ⟨_, true, .raw (.int .i64 p1)⟩ :: ⟨_, true, .raw v0⟩ :: ⟨_, true, .raw (.int .i64 (p0.length : Int))⟩ :: ⟨_, true, .raw (.int .i64 (p1 - (p0.length : Int)))⟩ :: ⟨_, true, .raw (.int .i64 (p1 - (p0.length : Int)))⟩ :: []) (tl := []) (by kernel_rfl) (by kernel_rfl) (by kernel_rfl) ?_ ?_
 ·exact
   Obls.p (fun R' w' hw hs hd => of_move ((hs 1 rfl).trans h1)) <|
   Obls.p (fun R' w' hw hs hd => of_move ((hs 0 rfl).trans h0)) <|
   Obls.p (fun R' w' hw hs hd => by have a0 : R' 6 = v0 := hd.g 0 rfl; have ra0 := (f_v0.fr hw).eq a0; exact of_len_sl (aT := #[]) ra0 Try.underlying22) <|
   Obls.p (fun R' w' hw hs hd => by have a0 : R' 5 = .int .i64 p1 := hd.g 0 rfl; have a1 : R' 7 = .int .i64 (p0.length : Int) := hd.g 1 rfl; exact of_sub a0 a1 e1) <|
   Obls.p (fun R' w' hw hs hd => by have a0 : R' 8 = .int .i64 (p1 - (p0.length : Int)) := hd.g 0 rfl; exact of_assign a0) <|
   Obls.nil
 intro R w hw hs hF'
 have h1 : R 1 = .int .i64 (p1 - (p0.length : Int)) := hF' 4 _ _ rfl rfl rfl
 replace hA := hA.fr hw.size
 replace hF := hF.trans hw
 clear hs hF' hw
 refine seqR_nil ?_
 refine HT.seq ?_
 refine HT.seq ?_
 refine HT.text (l := ⟨_, true, .raw (.int .i64 (p1 - (p0.length : Int)))⟩ :: ⟨_, true, .raw (.bool (decide ((p1 - (p0.length : Int)) < (0 : Int))))⟩ :: []) (tl := []) (by kernel_rfl) (by kernel_rfl) (by kernel_rfl) ?_ ?_
 ·exact
   Obls.p (fun R' w' hw hs hd => of_move ((hs 1 rfl).trans h1)) <|
   Obls.p (fun R' w' hw hs hd => by have a0 : R' 9 = .int .i64 (p1 - (p0.length : Int)) := hd.g 0 rfl; exact of_lss a0 rfl) <|
   Obls.nil
 intro R w hw hs hF'
 replace h1 := (hs 1 rfl).trans h1
 have h10 : R 10 = .bool (decide ((p1 - (p0.length : Int)) < (0 : Int))) := hF' 1 _ _ rfl rfl rfl
 replace hA := hA.fr hw.size
 replace hF := hF.trans hw
 clear hs hF' hw
 refine seqR_nil ?_
 refine HT.cond (decide ((p1 - (p0.length : Int)) < (0 : Int))) h10 (fun c2 => ?_) (fun c2 => ?_)
 ·have hr := cnd_t c2 hr
  refine HT.seq ?_
  refine HT.text (l := ⟨_, true, .raw (.int .i64 (-1 : Int))⟩ :: []) (tl := []) (by kernel_rfl) (by kernel_rfl) (by kernel_rfl) ?_ ?_
  ·exact
    Obls.p (fun R' w' hw hs hd => of_assign rfl) <|
    Obls.nil
  intro R w hw hs hF'
  have h4 : R 4 = .int .i64 (-1 : Int) := hF' 0 _ _ rfl rfl rfl
  replace hA := hA.fr hw.size
  replace hF := hF.trans hw
  clear hs hF' hw
  refine seqR_nil ?_
  refine HT.ret ?_
  obtain rfl := Option.some.inj hr
  exact ⟨.inr rfl, [R 4], ⟨rfl, trivial⟩, h4, hF⟩
 ·have hr := cnd_f c2 hr
  refine HT.skip ?_
  refine HT.seq ?_
  refine HT.text (l := ⟨_, true, .raw (.int .i64 (p1 - (p0.length : Int)))⟩ :: ⟨_, true, .raw (.int .i64 (p1 - (p0.length : Int)))⟩ :: []) (tl := []) (by kernel_rfl) (by kernel_rfl) (by kernel_rfl) ?_ ?_
  ·exact
    Obls.p (fun R' w' hw hs hd => of_move ((hs 1 rfl).trans h1)) <|
    Obls.p (fun R' w' hw hs hd => by have a0 : R' 11 = .int .i64 (p1 - (p0.length : Int)) := hd.g 0 rfl; exact of_assign a0) <|
    Obls.nil
  intro R w hw hs hF'
  have h4 : R 4 = .int .i64 (p1 - (p0.length : Int)) := hF' 1 _ _ rfl rfl rfl
  replace hA := hA.fr hw.size
  replace hF := hF.trans hw
  clear hs hF' hw
  refine seqR_nil ?_
  refine HT.ret ?_
  obtain rfl := Option.some.inj hr
  exact ⟨.inr rfl, [R 4], ⟨rfl, trivial⟩, h4, hF⟩
def M_laws_szRule (fu : Nat) (p0 : T_laws_Rule) (p1 : Int) : Option Int :=
 cl true (M_laws_szTestS fu p0 p1) fun x2 =>
 bif (decide (x2 < (0 : Int))) then (
  some (-1 : Int)
 ) else (
  some x2
 )
theorem M_laws_szRule_ok {fu : Nat} {A0 : Av} {p0 : T_laws_Rule} {p1 : Int} {r : Int} (hr : M_laws_szRule fu p0 p1 = some r) {w : World} {v0 : Value} {v1 : Value} (hA : AvOK A0 w) (h0 : Rep E_laws_Rule A0 w v0 p0) (h1 : v1 = .int .i64 p1) :
  Calls Try.prog 15 #[v0, v1] w fun e w' => ∃ v, e = .returned v ∧ (v = .int .i64 r ∧ Fr w w') := by
 unfold M_laws_szRule at hr
 obtain ⟨w0, hw0⟩ : ∃ w0, w0 = w := ⟨_, rfl⟩
 have hF : Fr w0 w := hw0 ▸ Fr.refl _
 have hA0 : ∀ b o, A0 b o → b < w0.heap.size := fun b o h => hw0 ▸ hA b o h
 have hA00 : AvOK A0 w0 := hA0
 rw [show Fr w = Fr w0 from hw0 ▸ rfl]
 clear hw0
 obtain ⟨A, hAe⟩ : ∃ A, A = A0 := ⟨_, rfl⟩
 have hAA : ∀ b o, A0 b o → A b o := fun b o h => hAe ▸ h
 replace hA : AvOK A w := hAe ▸ hA
 have hO : IniOK [] A w := IniOK.nil
 refine calls_of_HT2 [.tmp 4] Try.func15 Try.ntmps15 (by decide) rfl rfl (Nat.le_of_ble_eq_true rfl) ?_
 intro R hR
 have f_v0 : Rep E_laws_Rule A w v0 p0 := hAe ▸ h0
 replace h0 : R 0 = v0 := hR 0 _ rfl
 replace h1 : R 1 = .int .i64 p1 := (hR 1 _ rfl).trans h1
 clear hR hAe
 refine HT.seq ?_
 refine HT.textR [] (⟨_, true, [], some (.box w0.heap.size 24 E_laws_Rule p0), true, fun A => .any⟩ :: ⟨_, true, [], none, true, fun A => .raw (.int .i64 (0 : Int))⟩ :: []) (by kernel_rfl) (by kernel_rfl) (Wf.mk' (by kernel_rfl) (UAll.cons ust_any (UAll.cons ust_raw (UAll.nil))) (by kernel_rfl) (by kernel_rfl)) hO hA ?_ ?_
 ·exact
   OblsR.cons (OblR.made _ rfl rfl rfl rfl fun A' R' w' ho hd => by have a0 : R' 0 = v0 := (ho.old 0 rfl).trans h0; have ra0 := (f_v0.stp ho.stp).eq a0; exact made_box ra0 (Nat.le_trans hF.size ho.ch.size)) <|
   OblsR.p (fun A' R' w' ho hd => of_assign rfl) <|
   OblsR.nil
 intro done ρ σ A R w hdn hI
 replace h1 : R 1 = .int .i64 p1 := (hI.reg rfl).trans h1
 obtain ⟨b2_0, e_b2_0⟩ := hI.boxv hdn 0 rfl rfl
 have h2 : R 2 = (.pointer (some ⟨b2_0, 0, none⟩)) := (hI.opvR hdn 0 0 rfl rfl rfl rfl rfl).symm.trans e_b2_0
 replace hAA := hI.low' hAA hA0 (hO.ge (trivial))
 replace hF : Fr w0 w := hF.tr hI.ch (hO.ge (trivial))
 replace hO : IniOK [ob (.pointer (some ⟨b2_0, 0, none⟩)) (.box w0.heap.size 24 E_laws_Rule p0)] A w := hI.left hdn [(0, ob (.pointer (some ⟨b2_0, 0, none⟩)) (.box w0.heap.size 24 E_laws_Rule p0))] ⟨rfl, rfl, e_b2_0, rfl, rfl, trivial⟩
 replace hA := hI.avok
 clear hI
 refine HT.seq ?_
 obtain ⟨x2, q3, hr⟩ := cl_some hr
 refine HT.text (l := ⟨_, true, .raw (.pointer (some ⟨b2_0, 0, none⟩))⟩ :: ⟨_, true, .rep (eSl E_impl_Test) A p0⟩ :: ⟨_, true, .raw (.int .i64 p1)⟩ :: ⟨_, true, .raw (.int .i64 x2)⟩ :: ⟨_, true, .raw (.int .i64 x2)⟩ :: []) (tl := []) (by kernel_rfl) (by kernel_rfl) (by kernel_rfl) ?_ ?_
 ·exact
   Obls.p (fun R' w' hw hs hd => of_fieldAddr_raw ((hs 2 rfl).trans h2) ff_24_0 Try.sizeOf22 (by decide) rfl) <|
   Obls.p (fun R' w' hw hs hd => by have a0 : R' 5 = (.pointer (some ⟨b2_0, 0, none⟩)) := hd.g 0 rfl; exact (of_load_box ((hO.fr hw).ok 0 _ rfl).1 a0 fl_laws_Rule_0 rfl Try.isAgg22 Try.sizeOf22)) <|
   Obls.p (fun R' w' hw hs hd => of_move ((hs 1 rfl).trans h1)) <|
   Obls.p (fun R' w' hw hs hd => by have a0 : Rep (eSl E_impl_Test) A w' (R' 6) p0 := hd.g 0 rfl; have a1 : R' 7 = .int .i64 p1 := hd.g 1 rfl; exact of_call Try.call61 (M_laws_szTestS_ok (q3 rfl) (hA.fr hw.size) a0 a1)) <|
   Obls.p (fun R' w' hw hs hd => by have a0 : R' 8 = .int .i64 x2 := hd.g 0 rfl; exact of_assign a0) <|
   Obls.nil
 intro R w hw hs hF'
 have h1 : R 1 = .int .i64 x2 := hF' 4 _ _ rfl rfl rfl
 replace hO := hO.fr hw
 replace hO : IniOK [] A w := hO.sub [] trivial
 replace hA := hA.fr hw.size
 replace hF := hF.trans hw
 clear hs hF' hw
 refine seqR_nil ?_
 refine HT.seq ?_
 refine HT.seq ?_
 refine HT.text (l := ⟨_, true, .raw (.int .i64 x2)⟩ :: ⟨_, true, .raw (.bool (decide (x2 < (0 : Int))))⟩ :: []) (tl := []) (by kernel_rfl) (by kernel_rfl) (by kernel_rfl) ?_ ?_
 ·exact
   Obls.p (fun R' w' hw hs hd => of_move ((hs 1 rfl).trans h1)) <|
   Obls.p (fun R' w' hw hs hd => by have a0 : R' 9 = .int .i64 x2 := hd.g 0 rfl; exact of_lss a0 rfl) <|
   Obls.nil
 intro R w hw hs hF'
 replace h1 := (hs 1 rfl).trans h1
 have h10 : R 10 = .bool (decide (x2 < (0 : Int))) := hF' 1 _ _ rfl rfl rfl
 replace hO := hO.fr hw
 replace hA := hA.fr hw.size
 replace hF := hF.trans hw
 clear hs hF' hw
 refine seqR_nil ?_
 refine HT.cond (decide (x2 < (0 : Int))) h10 (fun c4 => ?_) (fun c4 => ?_)
 ·have hr := cnd_t c4 hr
  refine HT.seq ?_
  refine HT.text (l := ⟨_, true, .raw (.int .i64 (-1 : Int))⟩ :: []) (tl := []) (by kernel_rfl) (by kernel_rfl) (by kernel_rfl) ?_ ?_
  ·exact
    Obls.p (fun R' w' hw hs hd => of_assign rfl) <|
    Obls.nil
  intro R w hw hs hF'
  have h4 : R 4 = .int .i64 (-1 : Int) := hF' 0 _ _ rfl rfl rfl
  replace hO := hO.fr hw
  replace hA := hA.fr hw.size
  replace hF := hF.trans hw
  clear hs hF' hw
  refine seqR_nil ?_
  refine HT.ret ?_
  obtain rfl := Option.some.inj hr
  exact ⟨.inr rfl, [R 4], ⟨rfl, trivial⟩, h4, hF⟩
 ·have hr := cnd_f c4 hr
  refine HT.skip ?_
  refine HT.seq ?_
  refine HT.text (l := ⟨_, true, .raw (.int .i64 x2)⟩ :: ⟨_, true, .raw (.int .i64 x2)⟩ :: []) (tl := []) (by kernel_rfl) (by kernel_rfl) (by kernel_rfl) ?_ ?_
  ·exact
    Obls.p (fun R' w' hw hs hd => of_move ((hs 1 rfl).trans h1)) <|
    Obls.p (fun R' w' hw hs hd => by have a0 : R' 11 = .int .i64 x2 := hd.g 0 rfl; exact of_assign a0) <|
    Obls.nil
  intro R w hw hs hF'
  have h4 : R 4 = .int .i64 x2 := hF' 1 _ _ rfl rfl rfl
  replace hO := hO.fr hw
  replace hA := hA.fr hw.size
  replace hF := hF.trans hw
  clear hs hF' hw
  refine seqR_nil ?_
  refine HT.ret ?_
  obtain rfl := Option.some.inj hr
  exact ⟨.inr rfl, [R 4], ⟨rfl, trivial⟩, h4, hF⟩
def M_laws_szRuleS_L0 (fu : Nat) (p0 : List T_laws_Rule) : Nat → Int → Int → Option (Ex Int Int)
 | 0, _, _ => none
 | k + 1, y6, y7 =>
  bif (decide (y7 < (p0.length : Int))) then (
   ck (inR y7 p0.length) <|
   cl true (M_laws_szRule fu (gtD p0 y7) y6) fun x10 =>
   bif (decide (x10 < (0 : Int))) then (
    some (Ex.ret (-1 : Int))
   ) else (
    ck (i64B (y7 + (1 : Int))) <|
    M_laws_szRuleS_L0 fu p0 k x10 (y7 + (1 : Int))
   )
  ) else (
   some (Ex.go y6)
  )
def M_laws_szRuleS (fu : Nat) (p0 : List T_laws_Rule) (p1 : Int) : Option Int :=
 ck (i64B (p1 - (p0.length : Int))) <|
 bif (decide ((p1 - (p0.length : Int)) < (0 : Int))) then (
  some (-1 : Int)
 ) else (
  cl true (M_laws_szRuleS_L0 fu p0 fu (p1 - (p0.length : Int)) (0 : Int)) fun rl3 =>
  exM rl3 (fun r => some r) fun s5 =>
  some s5
 )
theorem M_laws_szRuleS_ok {fu : Nat} {A : Av} {p0 : List T_laws_Rule} {p1 : Int} {r : Int} (hr : M_laws_szRuleS fu p0 p1 = some r) {w : World} {v0 : Value} {v1 : Value} (hA : AvOK A w) (h0 : Rep (eSl E_laws_Rule) A w v0 p0) (h1 : v1 = .int .i64 p1) :
  Calls Try.prog 84 #[v0, v1] w fun e w' => ∃ v, e = .returned v ∧ (v = .int .i64 r ∧ Fr w w') := by
 unfold M_laws_szRuleS at hr
 obtain ⟨w0, hw0⟩ : ∃ w0, w0 = w := ⟨_, rfl⟩
 have hF : Fr w0 w := hw0 ▸ Fr.refl _
 rw [show Fr w = Fr w0 from hw0 ▸ rfl]
 clear hw0
 refine calls_of_HT2 [.tmp 4] Try.func84 Try.ntmps84 (by decide) rfl rfl (Nat.le_of_ble_eq_true rfl) ?_
 intro R hR
 have f_v0 := h0
 replace h0 : R 0 = v0 := hR 0 _ rfl
 replace h1 : R 1 = .int .i64 p1 := (hR 1 _ rfl).trans h1
 clear hR
 refine HT.seq ?_
 refine HT.text (l := ⟨_, true, .raw (.int .i64 (0 : Int))⟩ :: []) (tl := []) (by kernel_rfl) (by kernel_rfl) (by kernel_rfl) ?_ ?_
 ·exact
   Obls.p (fun R' w' hw hs hd => of_assign rfl) <|
   Obls.nil
 intro R w hw hs hF'
 replace h0 := (hs 0 rfl).trans h0
 replace h1 := (hs 1 rfl).trans h1
 replace f_v0 := f_v0.fr hw
 replace hA := hA.fr hw.size
 replace hF := hF.trans hw
 clear hs hF' hw
 refine seqR_nil ?_
 refine HT.seq ?_
 obtain ⟨e1, hr⟩ := ck_some hr
 refine HT.text (l := ⟨_, true, .raw (.int .i64 p1)⟩ :: ⟨_, true, .raw v0⟩ :: ⟨_, true, .raw (.int .i64 (p0.length : Int))⟩ :: ⟨_, true, .raw (.int .i64 (p1 - (p0.length : Int)))⟩ :: ⟨_, true, .raw (.int .i64 (p1 - (p0.length : Int)))⟩ :: []) (tl := []) (by kernel_rfl) (by kernel_rfl) (by kernel_rfl) ?_ ?_
 ·exact
   Obls.p (fun R' w' hw hs hd => of_move ((hs 1 rfl).trans h1)) <|
   Obls.p (fun R' w' hw hs hd => of_move ((hs 0 rfl).trans h0)) <|
   Obls.p (fun R' w' hw hs hd => by have a0 : R' 7 = v0 := hd.g 0 rfl; have ra0 := (f_v0.fr hw).eq a0; exact of_len_sl (aT := #[]) ra0 Try.underlying55) <|
   Obls.p (fun R' w' hw hs hd => by have a0 : R' 6 = .int .i64 p1 := hd.g 0 rfl; have a1 : R' 8 = .int .i64 (p0.length : Int) := hd.g 1 rfl; exact of_sub a0 a1 e1) <|
   Obls.p (fun R' w' hw hs hd => by have a0 : R' 9 = .int .i64 (p1 - (p0.length : Int)) := hd.g 0 rfl; exact of_assign a0) <|
   Obls.nil
 intro R w hw hs hF'
 replace h0 := (hs 0 rfl).trans h0
 have h1 : R 1 = .int .i64 (p1 - (p0.length : Int)) := hF' 4 _ _ rfl rfl rfl
 replace f_v0 := f_v0.fr hw
 replace hA := hA.fr hw.size
 replace hF := hF.trans hw
 clear hs hF' hw
 refine seqR_nil ?_
 refine HT.seq ?_
 refine HT.seq ?_
 refine HT.text (l := ⟨_, true, .raw (.int .i64 (p1 - (p0.length : Int)))⟩ :: ⟨_, true, .raw (.bool (decide ((p1 - (p0.length : Int)) < (0 : Int))))⟩ :: []) (tl := []) (by kernel_rfl) (by kernel_rfl) (by kernel_rfl) ?_ ?_
 ·exact
   Obls.p (fun R' w' hw hs hd => of_move ((hs 1 rfl).trans h1)) <|
   Obls.p (fun R' w' hw hs hd => by have a0 : R' 10 = .int .i64 (p1 - (p0.length : Int)) := hd.g 0 rfl; exact of_lss a0 rfl) <|
   Obls.nil
 intro R w hw hs hF'
 replace h0 := (hs 0 rfl).trans h0
 replace h1 := (hs 1 rfl).trans h1
 have h11 : R 11 = .bool (decide ((p1 - (p0.length : Int)) < (0 : Int))) := hF' 1 _ _ rfl rfl rfl
 replace f_v0 := f_v0.fr hw
 replace hA := hA.fr hw.size
 replace hF := hF.trans hw
 clear hs hF' hw
 refine seqR_nil ?_
 refine HT.cond (decide ((p1 - (p0.length : Int)) < (0 : Int))) h11 (fun c2 => ?_) (fun c2 => ?_)
 ·have hr := cnd_t c2 hr
  refine HT.seq ?_
  refine HT.text (l := ⟨_, true, .raw (.int .i64 (-1 : Int))⟩ :: []) (tl := []) (by kernel_rfl) (by kernel_rfl) (by kernel_rfl) ?_ ?_
  ·exact
    Obls.p (fun R' w' hw hs hd => of_assign rfl) <|
    Obls.nil
  intro R w hw hs hF'
  have h4 : R 4 = .int .i64 (-1 : Int) := hF' 0 _ _ rfl rfl rfl
  replace hA := hA.fr hw.size
  replace hF := hF.trans hw
  clear hs hF' hw
  refine seqR_nil ?_
  refine HT.ret ?_
  obtain rfl := Option.some.inj hr
  exact ⟨.inr rfl, [R 4], ⟨rfl, trivial⟩, h4, hF⟩
 ·have hr := cnd_f c2 hr
  refine HT.skip ?_
  refine HT.seq ?_
  refine HT.seq ?_
  refine HT.text (l := ⟨_, true, .raw (.int .i64 (0 : Int))⟩ :: []) (tl := []) (by kernel_rfl) (by kernel_rfl) (by kernel_rfl) ?_ ?_
  ·exact
    Obls.p (fun R' w' hw hs hd => of_assign rfl) <|
    Obls.nil
  intro R w hw hs hF'
  replace h0 := (hs 0 rfl).trans h0
  replace h1 := (hs 1 rfl).trans h1
  have h5 : R 5 = .int .i64 (0 : Int) := hF' 0 _ _ rfl rfl rfl
  replace f_v0 := f_v0.fr hw
  replace hA := hA.fr hw.size
  replace hF := hF.trans hw
  clear hs hF' hw
  refine seqR_nil ?_
  obtain ⟨rl3, q4, hr⟩ := cl_some hr
  replace q4 := q4 rfl
  refine HT.cut0 (fun R w => ∃ (s5 : Int), rl3 = Ex.go s5 ∧ AvOK A w ∧ Fr w0 w ∧ R 1 = .int .i64 s5) ?_ ?_
  ·refine HT.block ?_
   refine HT.loop (fun k R w => ∃ (y6 : Int) (y7 : Int), M_laws_szRuleS_L0 fu p0 k y6 y7 = some rl3 ∧ AvOK A w ∧ Fr w0 w ∧ R 0 = v0 ∧ R 1 = .int .i64 y6 ∧ R 5 = .int .i64 y7 ∧ Rep (eSl E_laws_Rule) A w v0 p0) fu ⟨_, _, q4, hA, hF, h0, h1, h5, f_v0⟩ ?_
   have hr0 := hr; clear hr q4
   rintro k R w ⟨y6, y7, hr, hA, hF, h0, h1, h5, f_v0⟩
   rcases k with _ | k
   ·cases (show none = some _ from hr)
   rw [M_laws_szRuleS_L0] at hr
   refine HT.seq ?_
   refine HT.seq ?_
   refine HT.text (l := ⟨_, true, .raw (.int .i64 y7)⟩ :: ⟨_, true, .raw v0⟩ :: ⟨_, true, .raw (.int .i64 (p0.length : Int))⟩ :: ⟨_, true, .raw (.bool (decide (y7 < (p0.length : Int))))⟩ :: []) (tl := []) (by kernel_rfl) (by kernel_rfl) (by kernel_rfl) ?_ ?_
   ·exact
     Obls.p (fun R' w' hw hs hd => of_move ((hs 5 rfl).trans h5)) <|
     Obls.p (fun R' w' hw hs hd => of_move ((hs 0 rfl).trans h0)) <|
     Obls.p (fun R' w' hw hs hd => by have a0 : R' 13 = v0 := hd.g 0 rfl; have ra0 := (f_v0.fr hw).eq a0; exact of_len_sl (aT := #[]) ra0 Try.underlying55) <|
     Obls.p (fun R' w' hw hs hd => by have a0 : R' 12 = .int .i64 y7 := hd.g 0 rfl; have a1 : R' 14 = .int .i64 (p0.length : Int) := hd.g 1 rfl; exact of_lss a0 a1) <|
     Obls.nil
   intro R w hw hs hF'
   replace h0 := (hs 0 rfl).trans h0
   replace h1 := (hs 1 rfl).trans h1
   replace h5 := (hs 5 rfl).trans h5
   have h15 : R 15 = .bool (decide (y7 < (p0.length : Int))) := hF' 3 _ _ rfl rfl rfl
   replace f_v0 := f_v0.fr hw
   replace hA := hA.fr hw.size
   replace hF := hF.trans hw
   clear hs hF' hw
   refine seqR_nil ?_
   refine HT.cond (decide (y7 < (p0.length : Int))) h15 (fun c8 => ?_) (fun c8 => ?_)
   ·have hr := cnd_t c8 hr
    refine HT.skip ?_
    refine HT.seq ?_
    refine HT.block ?_
    refine HT.seq ?_
    obtain ⟨e9, hr⟩ := ck_some hr
    obtain ⟨x10, q11, hr⟩ := cl_some hr
    refine HT.text (l := ⟨_, true, .raw v0⟩ :: ⟨_, true, .raw (.int .i64 y7)⟩ :: ⟨_, true, .qtr E_laws_Rule A (gtD p0 y7)⟩ :: ⟨_, true, .rep E_laws_Rule A (gtD p0 y7)⟩ :: ⟨_, true, .raw (.int .i64 y6)⟩ :: ⟨_, true, .raw (.int .i64 x10)⟩ :: ⟨_, true, .raw (.int .i64 x10)⟩ :: []) (tl := []) (by kernel_rfl) (by kernel_rfl) (by kernel_rfl) ?_ ?_
    ·exact
      Obls.p (fun R' w' hw hs hd => of_move ((hs 0 rfl).trans h0)) <|
      Obls.p (fun R' w' hw hs hd => of_move ((hs 5 rfl).trans h5)) <|
      Obls.p (fun R' w' hw hs hd => by have a0 : R' 18 = v0 := hd.g 0 rfl; have a1 : R' 19 = .int .i64 y7 := hd.g 1 rfl; have ra0 := (f_v0.fr hw).eq a0; exact of_indexAddr ra0 a1 Try.underlying55 Try.sizeOf24 e9) <|
      Obls.p (fun R' w' hw hs hd => by have a0 : QRep E_laws_Rule A w' (R' 20) (gtD p0 y7) := hd.g 0 rfl; exact (of_load a0.ptr Try.isAgg24 Try.sizeOf24)) <|
      Obls.p (fun R' w' hw hs hd => of_move ((hs 1 rfl).trans h1)) <|
      Obls.p (fun R' w' hw hs hd => by have a0 : Rep E_laws_Rule A w' (R' 21) (gtD p0 y7) := hd.g 0 rfl; have a1 : R' 22 = .int .i64 y6 := hd.g 1 rfl; exact of_call Try.call15 (M_laws_szRule_ok (q11 rfl) (hA.fr hw.size) a0 a1)) <|
      Obls.p (fun R' w' hw hs hd => by have a0 : R' 23 = .int .i64 x10 := hd.g 0 rfl; exact of_assign a0) <|
      Obls.nil
    intro R w hw hs hF'
    replace h0 := (hs 0 rfl).trans h0
    replace h5 := (hs 5 rfl).trans h5
    have h1 : R 1 = .int .i64 x10 := hF' 6 _ _ rfl rfl rfl
    replace f_v0 := f_v0.fr hw
    replace hA := hA.fr hw.size
    replace hF := hF.trans hw
    clear hs hF' hw
    refine seqR_nil ?_
    refine HT.seq ?_
    refine HT.text (l := ⟨_, true, .raw (.int .i64 x10)⟩ :: ⟨_, true, .raw (.bool (decide (x10 < (0 : Int))))⟩ :: []) (tl := []) (by kernel_rfl) (by kernel_rfl) (by kernel_rfl) ?_ ?_
    ·exact
      Obls.p (fun R' w' hw hs hd => of_move ((hs 1 rfl).trans h1)) <|
      Obls.p (fun R' w' hw hs hd => by have a0 : R' 24 = .int .i64 x10 := hd.g 0 rfl; exact of_lss a0 rfl) <|
      Obls.nil
    intro R w hw hs hF'
    replace h0 := (hs 0 rfl).trans h0
    replace h1 := (hs 1 rfl).trans h1
    replace h5 := (hs 5 rfl).trans h5
    have h25 : R 25 = .bool (decide (x10 < (0 : Int))) := hF' 1 _ _ rfl rfl rfl
    replace f_v0 := f_v0.fr hw
    replace hA := hA.fr hw.size
    replace hF := hF.trans hw
    clear hs hF' hw
    refine seqR_nil ?_
    refine HT.cond (decide (x10 < (0 : Int))) h25 (fun c12 => ?_) (fun c12 => ?_)
    ·have hr := cnd_t c12 hr
     refine HT.seq ?_
     refine HT.text (l := ⟨_, true, .raw (.int .i64 (-1 : Int))⟩ :: []) (tl := []) (by kernel_rfl) (by kernel_rfl) (by kernel_rfl) ?_ ?_
     ·exact
       Obls.p (fun R' w' hw hs hd => of_assign rfl) <|
       Obls.nil
     intro R w hw hs hF'
     have h4 : R 4 = .int .i64 (-1 : Int) := hF' 0 _ _ rfl rfl rfl
     replace hA := hA.fr hw.size
     replace hF := hF.trans hw
     clear hs hF' hw
     refine seqR_nil ?_
     refine HT.ret ?_
     obtain rfl := Option.some.inj hr
     have hr := hr0
     replace hr : some _ = some _ := hr
     obtain rfl := Option.some.inj hr
     exact ⟨.inr rfl, [R 4], ⟨rfl, trivial⟩, h4, hF⟩
    ·have hr := cnd_f c12 hr
     refine HT.skip ?_
     obtain ⟨e13, hr⟩ := ck_some hr
     refine HT.text (l := ⟨_, true, .raw (.int .i64 y7)⟩ :: ⟨_, true, .raw (.int .i64 (y7 + (1 : Int)))⟩ :: ⟨_, true, .raw (.int .i64 (y7 + (1 : Int)))⟩ :: []) (tl := []) (by kernel_rfl) (by kernel_rfl) (by kernel_rfl) ?_ ?_
     ·exact
       Obls.p (fun R' w' hw hs hd => of_move ((hs 5 rfl).trans h5)) <|
       Obls.p (fun R' w' hw hs hd => by have a0 : R' 16 = .int .i64 y7 := hd.g 0 rfl; exact of_add a0 rfl e13) <|
       Obls.p (fun R' w' hw hs hd => by have a0 : R' 17 = .int .i64 (y7 + (1 : Int)) := hd.g 0 rfl; exact of_assign a0) <|
       Obls.nil
     intro R w hw hs hF'
     replace h0 := (hs 0 rfl).trans h0
     replace h1 := (hs 1 rfl).trans h1
     have h5 : R 5 = .int .i64 (y7 + (1 : Int)) := hF' 2 _ _ rfl rfl rfl
     replace f_v0 := f_v0.fr hw
     replace hA := hA.fr hw.size
     replace hF := hF.trans hw
     clear hs hF' hw
     refine seqR_nil ?_
     exact Exists.intro k (And.intro (Nat.lt_succ_self k) ⟨_, _, hr, hA, hF, h0, h1, h5, f_v0⟩)
   ·have hr := cnd_f c8 hr
    refine HT.exit ?_
    obtain rfl := Option.some.inj hr
    exact Exists.intro _ ⟨rfl, hA, hF, h1⟩
  rintro R w ⟨s5, rfl, hA, hF, h1⟩
  have hr := exM_go hr
  refine HT.seq ?_
  refine HT.text (l := ⟨_, true, .raw (.int .i64 s5)⟩ :: ⟨_, true, .raw (.int .i64 s5)⟩ :: []) (tl := []) (by kernel_rfl) (by kernel_rfl) (by kernel_rfl) ?_ ?_
  ·exact
    Obls.p (fun R' w' hw hs hd => of_move ((hs 1 rfl).trans h1)) <|
    Obls.p (fun R' w' hw hs hd => by have a0 : R' 26 = .int .i64 s5 := hd.g 0 rfl; exact of_assign a0) <|
    Obls.nil
  intro R w hw hs hF'
  have h4 : R 4 = .int .i64 s5 := hF' 1 _ _ rfl rfl rfl
  replace hA := hA.fr hw.size
  replace hF := hF.trans hw
  clear hs hF' hw
  refine seqR_nil ?_
  refine HT.ret ?_
  obtain rfl := Option.some.inj hr
  exact ⟨.inr rfl, [R 4], ⟨rfl, trivial⟩, h4, hF⟩
def M_laws_szRuleSet (fu : Nat) (p0 : T_laws_RuleSet) (p1 : Int) : Option Int :=
 cl true (M_laws_szRuleS fu p0 p1) fun x2 =>
 bif (decide (x2 < (0 : Int))) then (
  some (-1 : Int)
 ) else (
  some x2
 )
theorem M_laws_szRuleSet_ok {fu : Nat} {A0 : Av} {p0 : T_laws_RuleSet} {p1 : Int} {r : Int} (hr : M_laws_szRuleSet fu p0 p1 = some r) {w : World} {v0 : Value} {v1 : Value} (hA : AvOK A0 w) (h0 : Rep E_laws_RuleSet A0 w v0 p0) (h1 : v1 = .int .i64 p1) :
  Calls Try.prog 32 #[v0, v1] w fun e w' => ∃ v, e = .returned v ∧ (v = .int .i64 r ∧ Fr w w') := by
 unfold M_laws_szRuleSet at hr
 obtain ⟨w0, hw0⟩ : ∃ w0, w0 = w := ⟨_, rfl⟩
 have hF : Fr w0 w := hw0 ▸ Fr.refl _
 have hA0 : ∀ b o, A0 b o → b < w0.heap.size := fun b o h => hw0 ▸ hA b o h
 have hA00 : AvOK A0 w0 := hA0
 rw [show Fr w = Fr w0 from hw0 ▸ rfl]
 clear hw0
 obtain ⟨A, hAe⟩ : ∃ A, A = A0 := ⟨_, rfl⟩
 have hAA : ∀ b o, A0 b o → A b o := fun b o h => hAe ▸ h
 replace hA : AvOK A w := hAe ▸ hA
 have hO : IniOK [] A w := IniOK.nil
 refine calls_of_HT2 [.tmp 4] Try.func32 Try.ntmps32 (by decide) rfl rfl (Nat.le_of_ble_eq_true rfl) ?_
 intro R hR
 have f_v0 : Rep E_laws_RuleSet A w v0 p0 := hAe ▸ h0
 replace h0 : R 0 = v0 := hR 0 _ rfl
 replace h1 : R 1 = .int .i64 p1 := (hR 1 _ rfl).trans h1
 clear hR hAe
 refine HT.seq ?_
 refine HT.textR [] (⟨_, true, [], some (.box w0.heap.size 57 E_laws_RuleSet p0), true, fun A => .any⟩ :: ⟨_, true, [], none, true, fun A => .raw (.int .i64 (0 : Int))⟩ :: []) (by kernel_rfl) (by kernel_rfl) (Wf.mk' (by kernel_rfl) (UAll.cons ust_any (UAll.cons ust_raw (UAll.nil))) (by kernel_rfl) (by kernel_rfl)) hO hA ?_ ?_
 ·exact
   OblsR.cons (OblR.made _ rfl rfl rfl rfl fun A' R' w' ho hd => by have a0 : R' 0 = v0 := (ho.old 0 rfl).trans h0; have ra0 := (f_v0.stp ho.stp).eq a0; exact made_box ra0 (Nat.le_trans hF.size ho.ch.size)) <|
   OblsR.p (fun A' R' w' ho hd => of_assign rfl) <|
   OblsR.nil
 intro done ρ σ A R w hdn hI
 replace h1 : R 1 = .int .i64 p1 := (hI.reg rfl).trans h1
 obtain ⟨b2_0, e_b2_0⟩ := hI.boxv hdn 0 rfl rfl
 have h2 : R 2 = (.pointer (some ⟨b2_0, 0, none⟩)) := (hI.opvR hdn 0 0 rfl rfl rfl rfl rfl).symm.trans e_b2_0
 replace hAA := hI.low' hAA hA0 (hO.ge (trivial))
 replace hF : Fr w0 w := hF.tr hI.ch (hO.ge (trivial))
 replace hO : IniOK [ob (.pointer (some ⟨b2_0, 0, none⟩)) (.box w0.heap.size 57 E_laws_RuleSet p0)] A w := hI.left hdn [(0, ob (.pointer (some ⟨b2_0, 0, none⟩)) (.box w0.heap.size 57 E_laws_RuleSet p0))] ⟨rfl, rfl, e_b2_0, rfl, rfl, trivial⟩
 replace hA := hI.avok
 clear hI
 refine HT.seq ?_
 obtain ⟨x2, q3, hr⟩ := cl_some hr
 refine HT.text (l := ⟨_, true, .raw (.pointer (some ⟨b2_0, 0, none⟩))⟩ :: ⟨_, true, .rep (eSl E_laws_Rule) A p0⟩ :: ⟨_, true, .raw (.int .i64 p1)⟩ :: ⟨_, true, .raw (.int .i64 x2)⟩ :: ⟨_, true, .raw (.int .i64 x2)⟩ :: []) (tl := []) (by kernel_rfl) (by kernel_rfl) (by kernel_rfl) ?_ ?_
 ·exact
   Obls.p (fun R' w' hw hs hd => of_fieldAddr_raw ((hs 2 rfl).trans h2) ff_57_0 Try.sizeOf55 (by decide) rfl) <|
   Obls.p (fun R' w' hw hs hd => by have a0 : R' 5 = (.pointer (some ⟨b2_0, 0, none⟩)) := hd.g 0 rfl; exact (of_load_box ((hO.fr hw).ok 0 _ rfl).1 a0 fl_laws_RuleSet_0 rfl Try.isAgg55 Try.sizeOf55)) <|
   Obls.p (fun R' w' hw hs hd => of_move ((hs 1 rfl).trans h1)) <|
   Obls.p (fun R' w' hw hs hd => by have a0 : Rep (eSl E_laws_Rule) A w' (R' 6) p0 := hd.g 0 rfl; have a1 : R' 7 = .int .i64 p1 := hd.g 1 rfl; exact of_call Try.call84 (M_laws_szRuleS_ok (q3 rfl) (hA.fr hw.size) a0 a1)) <|
   Obls.p (fun R' w' hw hs hd => by have a0 : R' 8 = .int .i64 x2 := hd.g 0 rfl; exact of_assign a0) <|
   Obls.nil
 intro R w hw hs hF'
 have h1 : R 1 = .int .i64 x2 := hF' 4 _ _ rfl rfl rfl
 replace hO := hO.fr hw
 replace hO : IniOK [] A w := hO.sub [] trivial
 replace hA := hA.fr hw.size
 replace hF := hF.trans hw
 clear hs hF' hw
 refine seqR_nil ?_
 refine HT.seq ?_
 refine HT.seq ?_
 refine HT.text (l := ⟨_, true, .raw (.int .i64 x2)⟩ :: ⟨_, true, .raw (.bool (decide (x2 < (0 : Int))))⟩ :: []) (tl := []) (by kernel_rfl) (by kernel_rfl) (by kernel_rfl) ?_ ?_
 ·exact
   Obls.p (fun R' w' hw hs hd => of_move ((hs 1 rfl).trans h1)) <|
   Obls.p (fun R' w' hw hs hd => by have a0 : R' 9 = .int .i64 x2 := hd.g 0 rfl; exact of_lss a0 rfl) <|
   Obls.nil
 intro R w hw hs hF'
 replace h1 := (hs 1 rfl).trans h1
 have h10 : R 10 = .bool (decide (x2 < (0 : Int))) := hF' 1 _ _ rfl rfl rfl
 replace hO := hO.fr hw
 replace hA := hA.fr hw.size
 replace hF := hF.trans hw
 clear hs hF' hw
 refine seqR_nil ?_
 refine HT.cond (decide (x2 < (0 : Int))) h10 (fun c4 => ?_) (fun c4 => ?_)
 ·have hr := cnd_t c4 hr
  refine HT.seq ?_
  refine HT.text (l := ⟨_, true, .raw (.int .i64 (-1 : Int))⟩ :: []) (tl := []) (by kernel_rfl) (by kernel_rfl) (by kernel_rfl) ?_ ?_
  ·exact
    Obls.p (fun R' w' hw hs hd => of_assign rfl) <|
    Obls.nil
  intro R w hw hs hF'
  have h4 : R 4 = .int .i64 (-1 : Int) := hF' 0 _ _ rfl rfl rfl
  replace hO := hO.fr hw
  replace hA := hA.fr hw.size
  replace hF := hF.trans hw
  clear hs hF' hw
  refine seqR_nil ?_
  refine HT.ret ?_
  obtain rfl := Option.some.inj hr
  exact ⟨.inr rfl, [R 4], ⟨rfl, trivial⟩, h4, hF⟩
 ·have hr := cnd_f c4 hr
  refine HT.skip ?_
  refine HT.seq ?_
  refine HT.text (l := ⟨_, true, .raw (.int .i64 x2)⟩ :: ⟨_, true, .raw (.int .i64 x2)⟩ :: []) (tl := []) (by kernel_rfl) (by kernel_rfl) (by kernel_rfl) ?_ ?_
  ·exact
    Obls.p (fun R' w' hw hs hd => of_move ((hs 1 rfl).trans h1)) <|
    Obls.p (fun R' w' hw hs hd => by have a0 : R' 11 = .int .i64 x2 := hd.g 0 rfl; exact of_assign a0) <|
    Obls.nil
  intro R w hw hs hF'
  have h4 : R 4 = .int .i64 x2 := hF' 1 _ _ rfl rfl rfl
  replace hO := hO.fr hw
  replace hA := hA.fr hw.size
  replace hF := hF.trans hw
  clear hs hF' hw
  refine seqR_nil ?_
  refine HT.ret ?_
  obtain rfl := Option.some.inj hr
  exact ⟨.inr rfl, [R 4], ⟨rfl, trivial⟩, h4, hF⟩
def M_laws_toTest (fu : Nat) (p0 : T_impl_Test) : Option T_impl_Test :=
 some (p0.1, p0.2.1, p0.2.2)
theorem M_laws_toTest_ok {fu : Nat} {A0 : Av} {p0 : T_impl_Test} {r : T_impl_Test} (hr : M_laws_toTest fu p0 = some r) {w : World} {v0 : Value} (hA : AvOK A0 w) (h0 : Rep E_impl_Test A0 w v0 p0) :
  Calls Try.prog 108 #[v0] w fun e w' => ∃ v, e = .returned v ∧ (Rep E_impl_Test A0 w' v r ∧ Fr w w') := by
 unfold M_laws_toTest at hr
 obtain ⟨w0, hw0⟩ : ∃ w0, w0 = w := ⟨_, rfl⟩
 have hF : Fr w0 w := hw0 ▸ Fr.refl _
 have hA0 : ∀ b o, A0 b o → b < w0.heap.size := fun b o h => hw0 ▸ hA b o h
 have hA00 : AvOK A0 w0 := hA0
 rw [show Fr w = Fr w0 from hw0 ▸ rfl]
 clear hw0
 obtain ⟨A, hAe⟩ : ∃ A, A = A0 := ⟨_, rfl⟩
 have hAA : ∀ b o, A0 b o → A b o := fun b o h => hAe ▸ h
 replace hA : AvOK A w := hAe ▸ hA
 have hO : IniOK [] A w := IniOK.nil
 refine calls_of_HT2 [.cell 2 85] Try.func108 Try.ntmps108 (by decide) rfl rfl (Nat.le_of_ble_eq_true rfl) ?_
 intro R hR
 have f_v0 : Rep E_impl_Test A w v0 p0 := hAe ▸ h0
 replace h0 : R 0 = v0 := hR 0 _ rfl
 clear hR hAe
 refine HT.seq ?_
 refine HT.textR [] (⟨_, true, [], some (.box w0.heap.size 133 E_impl_Test p0), true, fun A => .any⟩ :: ⟨_, true, [], some (.box w0.heap.size 85 E_impl_Test ((0 : Int), ((0 : Int), false))), true, fun A => .any⟩ :: []) (by kernel_rfl) (by kernel_rfl) (Wf.mk' (by kernel_rfl) (UAll.cons ust_any (UAll.cons ust_any (UAll.nil))) (by kernel_rfl) (by kernel_rfl)) hO hA ?_ ?_
 ·exact
   OblsR.cons (OblR.made _ rfl rfl rfl rfl fun A' R' w' ho hd => by have a0 : R' 0 = v0 := (ho.old 0 rfl).trans h0; have ra0 := (f_v0.stp ho.stp).eq a0; exact made_box ra0 (Nat.le_trans hF.size ho.ch.size)) <|
   OblsR.cons (OblR.made _ rfl rfl rfl rfl fun A' R' w' ho hd => by exact made_alloc Try.zeroValue85 (fun A w => rep_pr rep1_int (rep_pr rep1_int rep1_bool)) (Nat.le_trans hF.size ho.ch.size)) <|
   OblsR.nil
 intro done ρ σ A R w hdn hI
 obtain ⟨b1_0, e_b1_0⟩ := hI.boxv hdn 0 rfl rfl
 have h1 : R 1 = (.pointer (some ⟨b1_0, 0, none⟩)) := (hI.opvR hdn 0 0 rfl rfl rfl rfl rfl).symm.trans e_b1_0
 obtain ⟨b2_1, e_b2_1⟩ := hI.boxv hdn 1 rfl rfl
 have h2 : R 2 = (.pointer (some ⟨b2_1, 0, none⟩)) := (hI.opvR hdn 1 1 rfl rfl rfl rfl rfl).symm.trans e_b2_1
 replace hAA := hI.low' hAA hA0 (hO.ge (trivial))
 replace hF : Fr w0 w := hF.tr hI.ch (hO.ge (trivial))
 replace hO : IniOK [ob (.pointer (some ⟨b1_0, 0, none⟩)) (.box w0.heap.size 133 E_impl_Test p0), ob (.pointer (some ⟨b2_1, 0, none⟩)) (.box w0.heap.size 85 E_impl_Test ((0 : Int), ((0 : Int), false)))] A w := hI.left hdn [(0, ob (.pointer (some ⟨b1_0, 0, none⟩)) (.box w0.heap.size 133 E_impl_Test p0)), (1, ob (.pointer (some ⟨b2_1, 0, none⟩)) (.box w0.heap.size 85 E_impl_Test ((0 : Int), ((0 : Int), false))))] ⟨rfl, rfl, e_b1_0, rfl, rfl, ⟨rfl, rfl, e_b2_1, rfl, rfl, trivial⟩⟩
 replace hA := hI.avok
 clear hI
 refine HT.seq ?_
 refine HT.textR [ob (.pointer (some ⟨b1_0, 0, none⟩)) (.box w0.heap.size 133 E_impl_Test p0), ob (.pointer (some ⟨b2_1, 0, none⟩)) (.box w0.heap.size 85 E_impl_Test ((0 : Int), ((0 : Int), false)))] (⟨_, true, [], some (.box w0.heap.size 85 E_impl_Test ((0 : Int), ((0 : Int), false))), true, fun A => .any⟩ :: []) (by kernel_rfl) (by kernel_rfl) (Wf.mk' (by kernel_rfl) (UAll.cons ust_any (UAll.nil)) (by kernel_rfl) (by kernel_rfl)) hO hA ?_ ?_
 ·exact
   OblsR.cons (OblR.made _ rfl rfl rfl rfl fun A' R' w' ho hd => by exact made_alloc Try.zeroValue85 (fun A w => rep_pr rep1_int (rep_pr rep1_int rep1_bool)) (Nat.le_trans hF.size ho.ch.size)) <|
   OblsR.nil
 intro done ρ σ A R w hdn hI
 replace h1 : R 1 = (.pointer (some ⟨b1_0, 0, none⟩)) := (hI.reg rfl).trans h1
 replace h2 : R 2 = (.pointer (some ⟨b2_1, 0, none⟩)) := (hI.reg rfl).trans h2
 have z3 := hI.inivR 0 rfl
 have z4 := hI.inivR 1 rfl
 obtain ⟨b3_4, e_b3_4⟩ := hI.boxv hdn 2 rfl rfl
 have h3 : R 3 = (.pointer (some ⟨b3_4, 0, none⟩)) := (hI.opvR hdn 2 0 rfl rfl rfl rfl rfl).symm.trans e_b3_4
 replace hAA := hI.low' hAA hA0 (hO.ge (⟨rfl, ⟨rfl, trivial⟩⟩))
 replace hF : Fr w0 w := hF.tr hI.ch (hO.ge (⟨rfl, ⟨rfl, trivial⟩⟩))
 replace hO : IniOK [ob (.pointer (some ⟨b1_0, 0, none⟩)) (.box w0.heap.size 133 E_impl_Test p0), ob (.pointer (some ⟨b2_1, 0, none⟩)) (.box w0.heap.size 85 E_impl_Test ((0 : Int), ((0 : Int), false))), ob (.pointer (some ⟨b3_4, 0, none⟩)) (.box w0.heap.size 85 E_impl_Test ((0 : Int), ((0 : Int), false)))] A w := hI.left hdn [(0, ob (.pointer (some ⟨b1_0, 0, none⟩)) (.box w0.heap.size 133 E_impl_Test p0)), (1, ob (.pointer (some ⟨b2_1, 0, none⟩)) (.box w0.heap.size 85 E_impl_Test ((0 : Int), ((0 : Int), false)))), (2, ob (.pointer (some ⟨b3_4, 0, none⟩)) (.box w0.heap.size 85 E_impl_Test ((0 : Int), ((0 : Int), false))))] ⟨rfl, rfl, z3, rfl, rfl, ⟨rfl, rfl, z4, rfl, rfl, ⟨rfl, rfl, e_b3_4, rfl, rfl, trivial⟩⟩⟩
 replace hA := hI.avok
 clear hI
 refine HT.seq ?_
 refine HT.textR [ob (.pointer (some ⟨b1_0, 0, none⟩)) (.box w0.heap.size 133 E_impl_Test p0), ob (.pointer (some ⟨b2_1, 0, none⟩)) (.box w0.heap.size 85 E_impl_Test ((0 : Int), ((0 : Int), false))), ob (.pointer (some ⟨b3_4, 0, none⟩)) (.box w0.heap.size 85 E_impl_Test ((0 : Int), ((0 : Int), false)))] (⟨_, true, [], none, true, fun A => .raw (.pointer (some ⟨b1_0, 0, none⟩))⟩ :: ⟨_, true, [], none, true, fun A => .raw (.int .i64 p0.1)⟩ :: ⟨_, true, [], none, true, fun A => .raw (.pointer (some ⟨b3_4, 0, none⟩))⟩ :: ⟨_, true, [2], some (.box w0.heap.size 85 E_impl_Test (p0.1, (0 : Int), false)), false, fun A => .any⟩ :: []) (by kernel_rfl) (by kernel_rfl) (Wf.mk' (by kernel_rfl) (UAll.cons ust_raw (UAll.cons ust_raw (UAll.cons ust_raw (UAll.cons ust_any (UAll.nil))))) (by kernel_rfl) (by kernel_rfl)) hO hA ?_ ?_
 ·exact
   OblsR.p (fun A' R' w' ho hd => of_fieldAddr_raw ((ho.old 1 rfl).trans h1) ff_133_0 Try.sizeOf3 (by decide) rfl) <|
   OblsR.p (fun A' R' w' ho hd => by have a0 : R' 4 = (.pointer (some ⟨b1_0, 0, none⟩)) := hd.g 0 rfl; exact OpF.int (of_load_box (ho.rd 0 _ rfl rfl) a0 fl_impl_Test_0 rfl Try.isAgg3 Try.sizeOf3)) <|
   OblsR.p (fun A' R' w' ho hd => of_fieldAddr_raw ((ho.old 3 rfl).trans h3) ff_85_0 Try.sizeOf3 (by decide) rfl) <|
   OblsR.cons (OblR.took 2 _ _ rfl rfl rfl rfl rfl fun A' R' w' ho hd u hok hav hin hop hds => by have a0 : R' 6 = (.pointer (some ⟨b3_4, 0, none⟩)) := hd.g 0 rfl; have a1 : R' 5 = .int .i64 p0.1 := hd.g 1 rfl; exact took_store (rep_int.eq a1) a0 (hin _ rfl) hok hav fs_impl_Test_0 Try.sizeOf3 rfl) <|
   OblsR.nil
 intro done ρ σ A R w hdn hI
 replace h1 : R 1 = (.pointer (some ⟨b1_0, 0, none⟩)) := (hI.reg rfl).trans h1
 replace h2 : R 2 = (.pointer (some ⟨b2_1, 0, none⟩)) := (hI.reg rfl).trans h2
 replace h3 : R 3 = (.pointer (some ⟨b3_4, 0, none⟩)) := (hI.reg rfl).trans h3
 have z6 := hI.inivR 0 rfl
 have z7 := hI.inivR 1 rfl
 have z8 := hI.inivR 2 rfl
 have z9 := (hI.opnR hdn 6 3 rfl rfl rfl rfl rfl).trans z8
 replace hAA := hI.low' hAA hA0 (hO.ge (⟨rfl, ⟨rfl, ⟨rfl, trivial⟩⟩⟩))
 replace hF : Fr w0 w := hF.tr hI.ch (hO.ge (⟨rfl, ⟨rfl, ⟨rfl, trivial⟩⟩⟩))
 replace hO : IniOK [ob (.pointer (some ⟨b1_0, 0, none⟩)) (.box w0.heap.size 133 E_impl_Test p0), ob (.pointer (some ⟨b2_1, 0, none⟩)) (.box w0.heap.size 85 E_impl_Test ((0 : Int), ((0 : Int), false))), ob (.pointer (some ⟨b3_4, 0, none⟩)) (.box w0.heap.size 85 E_impl_Test (p0.1, (0 : Int), false))] A w := hI.left hdn [(0, ob (.pointer (some ⟨b1_0, 0, none⟩)) (.box w0.heap.size 133 E_impl_Test p0)), (1, ob (.pointer (some ⟨b2_1, 0, none⟩)) (.box w0.heap.size 85 E_impl_Test ((0 : Int), ((0 : Int), false)))), (6, ob (.pointer (some ⟨b3_4, 0, none⟩)) (.box w0.heap.size 85 E_impl_Test (p0.1, (0 : Int), false)))] ⟨rfl, rfl, z6, rfl, rfl, ⟨rfl, rfl, z7, rfl, rfl, ⟨rfl, rfl, z9, rfl, rfl, trivial⟩⟩⟩
 replace hA := hI.avok
 clear hI
 refine HT.seq ?_
 refine HT.textR [ob (.pointer (some ⟨b1_0, 0, none⟩)) (.box w0.heap.size 133 E_impl_Test p0), ob (.pointer (some ⟨b2_1, 0, none⟩)) (.box w0.heap.size 85 E_impl_Test ((0 : Int), ((0 : Int), false))), ob (.pointer (some ⟨b3_4, 0, none⟩)) (.box w0.heap.size 85 E_impl_Test (p0.1, (0 : Int), false))] (⟨_, true, [], none, true, fun A => .raw (.pointer (some ⟨b1_0, 1, none⟩))⟩ :: ⟨_, true, [], none, true, fun A => .raw (.int .i64 p0.2.1)⟩ :: ⟨_, true, [], none, true, fun A => .raw (.pointer (some ⟨b3_4, 1, none⟩))⟩ :: ⟨_, true, [2], some (.box w0.heap.size 85 E_impl_Test (p0.1, p0.2.1, false)), false, fun A => .any⟩ :: []) (by kernel_rfl) (by kernel_rfl) (Wf.mk' (by kernel_rfl) (UAll.cons ust_raw (UAll.cons ust_raw (UAll.cons ust_raw (UAll.cons ust_any (UAll.nil))))) (by kernel_rfl) (by kernel_rfl)) hO hA ?_ ?_
 ·exact
   OblsR.p (fun A' R' w' ho hd => of_fieldAddr_raw ((ho.old 1 rfl).trans h1) ff_133_1 Try.sizeOf3 (by decide) rfl) <|
   OblsR.p (fun A' R' w' ho hd => by have a0 : R' 7 = (.pointer (some ⟨b1_0, 1, none⟩)) := hd.g 0 rfl; exact OpF.int (of_load_box (ho.rd 0 _ rfl rfl) a0 fl_impl_Test_1 rfl Try.isAgg3 Try.sizeOf3)) <|
   OblsR.p (fun A' R' w' ho hd => of_fieldAddr_raw ((ho.old 3 rfl).trans h3) ff_85_1 Try.sizeOf3 (by decide) rfl) <|
   OblsR.cons (OblR.took 2 _ _ rfl rfl rfl rfl rfl fun A' R' w' ho hd u hok hav hin hop hds => by have a0 : R' 9 = (.pointer (some ⟨b3_4, 1, none⟩)) := hd.g 0 rfl; have a1 : R' 8 = .int .i64 p0.2.1 := hd.g 1 rfl; exact took_store (rep_int.eq a1) a0 (hin _ rfl) hok hav fs_impl_Test_1 Try.sizeOf3 rfl) <|
   OblsR.nil
 intro done ρ σ A R w hdn hI
 replace h1 : R 1 = (.pointer (some ⟨b1_0, 0, none⟩)) := (hI.reg rfl).trans h1
 replace h2 : R 2 = (.pointer (some ⟨b2_1, 0, none⟩)) := (hI.reg rfl).trans h2
 replace h3 : R 3 = (.pointer (some ⟨b3_4, 0, none⟩)) := (hI.reg rfl).trans h3
 have z10 := hI.inivR 0 rfl
 have z11 := hI.inivR 1 rfl
 have z12 := hI.inivR 2 rfl
 have z13 := (hI.opnR hdn 6 3 rfl rfl rfl rfl rfl).trans z12
 replace hAA := hI.low' hAA hA0 (hO.ge (⟨rfl, ⟨rfl, ⟨rfl, trivial⟩⟩⟩))
 replace hF : Fr w0 w := hF.tr hI.ch (hO.ge (⟨rfl, ⟨rfl, ⟨rfl, trivial⟩⟩⟩))
 replace hO : IniOK [ob (.pointer (some ⟨b1_0, 0, none⟩)) (.box w0.heap.size 133 E_impl_Test p0), ob (.pointer (some ⟨b2_1, 0, none⟩)) (.box w0.heap.size 85 E_impl_Test ((0 : Int), ((0 : Int), false))), ob (.pointer (some ⟨b3_4, 0, none⟩)) (.box w0.heap.size 85 E_impl_Test (p0.1, p0.2.1, false))] A w := hI.left hdn [(0, ob (.pointer (some ⟨b1_0, 0, none⟩)) (.box w0.heap.size 133 E_impl_Test p0)), (1, ob (.pointer (some ⟨b2_1, 0, none⟩)) (.box w0.heap.size 85 E_impl_Test ((0 : Int), ((0 : Int), false)))), (6, ob (.pointer (some ⟨b3_4, 0, none⟩)) (.box w0.heap.size 85 E_impl_Test (p0.1, p0.2.1, false)))] ⟨rfl, rfl, z10, rfl, rfl, ⟨rfl, rfl, z11, rfl, rfl, ⟨rfl, rfl, z13, rfl, rfl, trivial⟩⟩⟩
 replace hA := hI.avok
 clear hI
 refine HT.seq ?_
 refine HT.textR [ob (.pointer (some ⟨b1_0, 0, none⟩)) (.box w0.heap.size 133 E_impl_Test p0), ob (.pointer (some ⟨b2_1, 0, none⟩)) (.box w0.heap.size 85 E_impl_Test ((0 : Int), ((0 : Int), false))), ob (.pointer (some ⟨b3_4, 0, none⟩)) (.box w0.heap.size 85 E_impl_Test (p0.1, p0.2.1, false))] (⟨_, true, [], none, true, fun A => .raw (.pointer (some ⟨b1_0, 2, none⟩))⟩ :: ⟨_, true, [], none, true, fun A => .raw (.bool p0.2.2)⟩ :: ⟨_, true, [], none, true, fun A => .raw (.pointer (some ⟨b3_4, 2, none⟩))⟩ :: ⟨_, true, [2], some (.box w0.heap.size 85 E_impl_Test (p0.1, p0.2.1, p0.2.2)), false, fun A => .any⟩ :: []) (by kernel_rfl) (by kernel_rfl) (Wf.mk' (by kernel_rfl) (UAll.cons ust_raw (UAll.cons ust_raw (UAll.cons ust_raw (UAll.cons ust_any (UAll.nil))))) (by kernel_rfl) (by kernel_rfl)) hO hA ?_ ?_
 ·exact
   OblsR.p (fun A' R' w' ho hd => of_fieldAddr_raw ((ho.old 1 rfl).trans h1) ff_133_2 Try.sizeOf4 (by decide) rfl) <|
   OblsR.p (fun A' R' w' ho hd => by have a0 : R' 10 = (.pointer (some ⟨b1_0, 2, none⟩)) := hd.g 0 rfl; exact OpF.bool (of_load_box (ho.rd 0 _ rfl rfl) a0 fl_impl_Test_2 rfl Try.isAgg4 Try.sizeOf4)) <|
   OblsR.p (fun A' R' w' ho hd => of_fieldAddr_raw ((ho.old 3 rfl).trans h3) ff_85_2 Try.sizeOf4 (by decide) rfl) <|
   OblsR.cons (OblR.took 2 _ _ rfl rfl rfl rfl rfl fun A' R' w' ho hd u hok hav hin hop hds => by have a0 : R' 12 = (.pointer (some ⟨b3_4, 2, none⟩)) := hd.g 0 rfl; have a1 : R' 11 = .bool p0.2.2 := hd.g 1 rfl; exact took_store (rep_bool.eq a1) a0 (hin _ rfl) hok hav fs_impl_Test_2 Try.sizeOf4 rfl) <|
   OblsR.nil
 intro done ρ σ A R w hdn hI
 replace h2 : R 2 = (.pointer (some ⟨b2_1, 0, none⟩)) := (hI.reg rfl).trans h2
 replace h3 : R 3 = (.pointer (some ⟨b3_4, 0, none⟩)) := (hI.reg rfl).trans h3
 have z14 := hI.inivR 0 rfl
 have z15 := hI.inivR 1 rfl
 have z16 := hI.inivR 2 rfl
 have z17 := (hI.opnR hdn 6 3 rfl rfl rfl rfl rfl).trans z16
 replace hAA := hI.low' hAA hA0 (hO.ge (⟨rfl, ⟨rfl, ⟨rfl, trivial⟩⟩⟩))
 replace hF : Fr w0 w := hF.tr hI.ch (hO.ge (⟨rfl, ⟨rfl, ⟨rfl, trivial⟩⟩⟩))
 replace hO : IniOK [ob (.pointer (some ⟨b2_1, 0, none⟩)) (.box w0.heap.size 85 E_impl_Test ((0 : Int), ((0 : Int), false))), ob (.pointer (some ⟨b3_4, 0, none⟩)) (.box w0.heap.size 85 E_impl_Test (p0.1, p0.2.1, p0.2.2))] A w := hI.left hdn [(1, ob (.pointer (some ⟨b2_1, 0, none⟩)) (.box w0.heap.size 85 E_impl_Test ((0 : Int), ((0 : Int), false)))), (6, ob (.pointer (some ⟨b3_4, 0, none⟩)) (.box w0.heap.size 85 E_impl_Test (p0.1, p0.2.1, p0.2.2)))] ⟨rfl, rfl, z15, rfl, rfl, ⟨rfl, rfl, z17, rfl, rfl, trivial⟩⟩
 replace hA := hI.avok
 clear hI
 refine HT.seq ?_
 refine HT.textR [ob (.pointer (some ⟨b2_1, 0, none⟩)) (.box w0.heap.size 85 E_impl_Test ((0 : Int), ((0 : Int), false))), ob (.pointer (some ⟨b3_4, 0, none⟩)) (.box w0.heap.size 85 E_impl_Test (p0.1, p0.2.1, p0.2.2))] (⟨_, true, [], none, true, fun A => .rep E_impl_Test A (p0.1, p0.2.1, p0.2.2)⟩ :: ⟨_, true, [0], some (.box w0.heap.size 85 E_impl_Test (p0.1, p0.2.1, p0.2.2)), false, fun A => .any⟩ :: []) (by kernel_rfl) (by kernel_rfl) (Wf.mk' (by kernel_rfl) (UAll.cons ust_rep (UAll.cons ust_any (UAll.nil))) (by kernel_rfl) (by kernel_rfl)) hO hA ?_ ?_
 ·exact
   OblsR.p (fun A' R' w' ho hd => (of_load_box (ho.rd 1 _ rfl rfl) ((ho.old 3 rfl).trans h3) (Fld.id _) rfl Try.isAgg85 Try.sizeOf85)) <|
   OblsR.cons (OblR.took 0 _ _ rfl rfl rfl rfl rfl fun A' R' w' ho hd u hok hav hin hop hds => by have a0 : R' 2 = (.pointer (some ⟨b2_1, 0, none⟩)) := (ho.old 2 rfl).trans h2; have a1 : Rep E_impl_Test A' w' (R' 13) (p0.1, p0.2.1, p0.2.2) := hd.g 0 rfl; exact took_store a1 a0 (hin _ rfl) hok hav (FldS.id _) Try.sizeOf85 rfl) <|
   OblsR.nil
 intro done ρ σ A R w hdn hI
 replace h2 : R 2 = (.pointer (some ⟨b2_1, 0, none⟩)) := (hI.reg rfl).trans h2
 have z18 := hI.inivR 0 rfl
 have z19 := (hI.opnR hdn 3 1 rfl rfl rfl rfl rfl).trans z18
 have z20 := hI.inivR 1 rfl
 replace hAA := hI.low' hAA hA0 (hO.ge (⟨rfl, ⟨rfl, trivial⟩⟩))
 replace hF : Fr w0 w := hF.tr hI.ch (hO.ge (⟨rfl, ⟨rfl, trivial⟩⟩))
 replace hO : IniOK [ob (.pointer (some ⟨b2_1, 0, none⟩)) (.box w0.heap.size 85 E_impl_Test (p0.1, p0.2.1, p0.2.2))] A w := hI.left hdn [(3, ob (.pointer (some ⟨b2_1, 0, none⟩)) (.box w0.heap.size 85 E_impl_Test (p0.1, p0.2.1, p0.2.2)))] ⟨rfl, rfl, z19, rfl, rfl, trivial⟩
 replace hA := hI.avok
 clear hI
 refine HT.ret ?_
 obtain rfl := Option.some.inj hr
 obtain ⟨v_2, e_2, p_2⟩ := res_cell (hO.ok 0 _ rfl).1 h2 Try.isAgg85 Try.sizeOf85 hAA
 exact ⟨.inr rfl, [v_2], ⟨e_2, trivial⟩, p_2, hF⟩
def M_laws_toTestS_L0 (fu : Nat) (p0 : List T_impl_Test) : Nat → Int → (List T_impl_Test) → Option (List T_impl_Test)
 | 0, _, _ => none
 | k + 1, y6, y7 =>
  bif (decide (y6 < (p0.length : Int))) then (
   ck (inR y6 p0.length) <|
   cl true (M_laws_toTest fu (gtD p0 y6)) fun x10 =>
   ck (inR y6 y7.length) <|
   ck (i64B (y6 + (1 : Int))) <|
   M_laws_toTestS_L0 fu p0 k (y6 + (1 : Int)) (y7.set y6.toNat x10)
  ) else (
   some y7
  )
def M_laws_toTestS (fu : Nat) (p0 : List T_impl_Test) : Option (List T_impl_Test) :=
 ck (mkOK (p0.length : Int)) <|
 cl true (M_laws_toTestS_L0 fu p0 fu (0 : Int) (List.replicate (p0.length : Int).toNat ((0 : Int), ((0 : Int), false)))) fun s5 =>
 some s5
theorem M_laws_toTestS_ok {fu : Nat} {A0 : Av} {p0 : List T_impl_Test} {r : List T_impl_Test} (hr : M_laws_toTestS fu p0 = some r) {w : World} {v0 : Value} (hA : AvOK A0 w) (h0 : Rep (eSl E_impl_Test) A0 w v0 p0) :
  Calls Try.prog 64 #[v0] w fun e w' => ∃ v, e = .returned v ∧ ((Res.vec w.heap.size 85 E_impl_Test r).ok (addA A0 v) v w' ∧ Fr w w') := by
 unfold M_laws_toTestS at hr
 obtain ⟨w0, hw0⟩ : ∃ w0, w0 = w := ⟨_, rfl⟩
 have hF : Fr w0 w := hw0 ▸ Fr.refl _
 have hA0 : ∀ b o, A0 b o → b < w0.heap.size := fun b o h => hw0 ▸ hA b o h
 have hA00 : AvOK A0 w0 := hA0
 rw [show w.heap.size = w0.heap.size from hw0 ▸ rfl]
 rw [show Fr w = Fr w0 from hw0 ▸ rfl]
 clear hw0
 obtain ⟨A, hAe⟩ : ∃ A, A = A0 := ⟨_, rfl⟩
 have hAA : ∀ b o, A0 b o → A b o := fun b o h => hAe ▸ h
 replace hA : AvOK A w := hAe ▸ hA
 have hO : IniOK [] A w := IniOK.nil
 refine calls_of_HT2 [.tmp 2] Try.func64 Try.ntmps64 (by decide) rfl rfl (Nat.le_of_ble_eq_true rfl) ?_
 intro R hR
 have f_v0 : Rep (eSl E_impl_Test) A w v0 p0 := hAe ▸ h0
 replace h0 : R 0 = v0 := hR 0 _ rfl
 clear hR hAe
 refine HT.seq ?_
 refine HT.text (l := ⟨_, true, .any⟩ :: []) (tl := []) (by kernel_rfl) (by kernel_rfl) (by kernel_rfl) ?_ ?_
 ·exact
   Obls.p (fun R' w' hw hs hd => of_assign trivial) <|
   Obls.nil
 intro R w hw hs hF'
 replace h0 := (hs 0 rfl).trans h0
 replace f_v0 := f_v0.fr hw
 replace hO := hO.fr hw
 replace hA := hA.fr hw.size
 replace hF := hF.trans hw
 clear hs hF' hw
 refine seqR_nil ?_
 refine HT.seq ?_
 obtain ⟨e1, hr⟩ := ck_some hr
 refine HT.textR [] (⟨_, true, [], none, true, fun A => .raw v0⟩ :: ⟨_, true, [], none, true, fun A => .raw (.int .i64 (p0.length : Int))⟩ :: ⟨_, true, [], some (.vec w0.heap.size 85 E_impl_Test (List.replicate (p0.length : Int).toNat ((0 : Int), ((0 : Int), false)))), true, fun A => .any⟩ :: ⟨_, true, [2], some (.vec w0.heap.size 85 E_impl_Test (List.replicate (p0.length : Int).toNat ((0 : Int), ((0 : Int), false)))), true, fun A => .any⟩ :: []) (by kernel_rfl) (by kernel_rfl) (Wf.mk' (by kernel_rfl) (UAll.cons ust_raw (UAll.cons ust_raw (UAll.cons ust_any (UAll.cons ust_any (UAll.nil))))) (by kernel_rfl) (by kernel_rfl)) hO hA ?_ ?_
 ·exact
   OblsR.p (fun A' R' w' ho hd => of_move ((ho.old 0 rfl).trans h0)) <|
   OblsR.p (fun A' R' w' ho hd => by have a0 : R' 5 = v0 := hd.g 0 rfl; have ra0 := (f_v0.stp ho.stp).eq a0; exact of_len_sl (aT := #[]) ra0 Try.underlying22) <|
   OblsR.cons (OblR.made _ rfl rfl rfl rfl fun A' R' w' ho hd => by have a0 : R' 6 = .int .i64 (p0.length : Int) := hd.g 0 rfl; have a1 : R' 6 = .int .i64 (p0.length : Int) := hd.g 0 rfl; exact made_make a0 a1 e1 Try.underlying28 el_85 Try.zeroValue85 (fun A w => rep_pr rep1_int (rep_pr rep1_int rep1_bool)) (Nat.le_trans hF.size ho.ch.size)) <|
   OblsR.cons (OblR.took 2 _ _ rfl rfl rfl rfl rfl fun A' R' w' ho hd u hok hav hin hop hds => by exact took_assign (hop _ _ rfl rfl rfl rfl).symm hok hav) <|
   OblsR.nil
 intro done ρ σ A R w hdn hI
 replace h0 : R 0 = v0 := (hI.reg rfl).trans h0
 obtain ⟨u2, e_u2⟩ : ∃ u, ρ 3 = u := ⟨_, rfl⟩
 have h3 : R 3 = u2 := (hI.opvR hdn 3 3 rfl rfl rfl rfl rfl).symm.trans e_u2
 replace f_v0 := f_v0.stp hI.stp
 replace hAA := hI.low' hAA hA0 (hO.ge (trivial))
 replace hF : Fr w0 w := hF.tr hI.ch (hO.ge (trivial))
 replace hO : IniOK [ob u2 (.vec w0.heap.size 85 E_impl_Test (List.replicate (p0.length : Int).toNat ((0 : Int), ((0 : Int), false))))] A w := hI.left hdn [(3, ob u2 (.vec w0.heap.size 85 E_impl_Test (List.replicate (p0.length : Int).toNat ((0 : Int), ((0 : Int), false)))))] ⟨rfl, rfl, e_u2, rfl, rfl, trivial⟩
 replace hA := hI.avok
 clear hI
 refine HT.seq ?_
 refine HT.seq ?_
 refine HT.text (l := ⟨_, true, .raw (.int .i64 (0 : Int))⟩ :: []) (tl := []) (by kernel_rfl) (by kernel_rfl) (by kernel_rfl) ?_ ?_
 ·exact
   Obls.p (fun R' w' hw hs hd => of_assign rfl) <|
   Obls.nil
 intro R w hw hs hF'
 replace h0 := (hs 0 rfl).trans h0
 replace h3 := (hs 3 rfl).trans h3
 have h4 : R 4 = .int .i64 (0 : Int) := hF' 0 _ _ rfl rfl rfl
 replace f_v0 := f_v0.fr hw
 replace hO := hO.fr hw
 replace hA := hA.fr hw.size
 replace hF := hF.trans hw
 clear hs hF' hw
 refine seqR_nil ?_
 obtain ⟨rl3, q4, hr⟩ := cl_some hr
 replace q4 := q4 rfl
 refine HT.cut0 (fun R w => ∃ A : Av, ∃ (s5 : (List T_impl_Test)), rl3 = s5 ∧ AvOK A w ∧ Fr w0 w ∧ (∀ b o, A0 b o → A b o) ∧ IniOK [ob u2 (.vec w0.heap.size 85 E_impl_Test s5)] A w ∧ R 3 = u2) ?_ ?_
 ·refine HT.block ?_
  refine HT.loop (fun k R w => ∃ A : Av, ∃ (y6 : Int) (y7 : List T_impl_Test), M_laws_toTestS_L0 fu p0 k y6 y7 = some rl3 ∧ AvOK A w ∧ Fr w0 w ∧ (∀ b o, A0 b o → A b o) ∧ IniOK [ob u2 (.vec w0.heap.size 85 E_impl_Test y7)] A w ∧ R 0 = v0 ∧ R 3 = u2 ∧ R 4 = .int .i64 y6 ∧ Rep (eSl E_impl_Test) A w v0 p0) fu ⟨_, _, _, q4, hA, hF, hAA, hO, h0, h3, h4, f_v0⟩ ?_
  have hr0 := hr; clear hr q4
  rintro k R w ⟨A, y6, y7, hr, hA, hF, hAA, hO, h0, h3, h4, f_v0⟩
  rcases k with _ | k
  ·cases (show none = some _ from hr)
  rw [M_laws_toTestS_L0] at hr
  refine HT.seq ?_
  refine HT.seq ?_
  refine HT.text (l := ⟨_, true, .raw (.int .i64 y6)⟩ :: ⟨_, true, .raw v0⟩ :: ⟨_, true, .raw (.int .i64 (p0.length : Int))⟩ :: ⟨_, true, .raw (.bool (decide (y6 < (p0.length : Int))))⟩ :: []) (tl := []) (by kernel_rfl) (by kernel_rfl) (by kernel_rfl) ?_ ?_
  ·exact
    Obls.p (fun R' w' hw hs hd => of_move ((hs 4 rfl).trans h4)) <|
    Obls.p (fun R' w' hw hs hd => of_move ((hs 0 rfl).trans h0)) <|
    Obls.p (fun R' w' hw hs hd => by have a0 : R' 9 = v0 := hd.g 0 rfl; have ra0 := (f_v0.fr hw).eq a0; exact of_len_sl (aT := #[]) ra0 Try.underlying22) <|
    Obls.p (fun R' w' hw hs hd => by have a0 : R' 8 = .int .i64 y6 := hd.g 0 rfl; have a1 : R' 10 = .int .i64 (p0.length : Int) := hd.g 1 rfl; exact of_lss a0 a1) <|
    Obls.nil
  intro R w hw hs hF'
  replace h0 := (hs 0 rfl).trans h0
  replace h3 := (hs 3 rfl).trans h3
  replace h4 := (hs 4 rfl).trans h4
  have h11 : R 11 = .bool (decide (y6 < (p0.length : Int))) := hF' 3 _ _ rfl rfl rfl
  replace f_v0 := f_v0.fr hw
  replace hO := hO.fr hw
  replace hA := hA.fr hw.size
  replace hF := hF.trans hw
  clear hs hF' hw
  refine seqR_nil ?_
  refine HT.cond (decide (y6 < (p0.length : Int))) h11 (fun c8 => ?_) (fun c8 => ?_)
  ·have hr := cnd_t c8 hr
   refine HT.skip ?_
   refine HT.seq ?_
   refine HT.block ?_
   obtain ⟨e9, hr⟩ := ck_some hr
   obtain ⟨x10, q11, hr⟩ := cl_some hr
   obtain ⟨e12, hr⟩ := ck_some hr
   refine HT.textR [ob u2 (.vec w0.heap.size 85 E_impl_Test y7)] (⟨_, true, [], none, true, fun A => .raw u2⟩ :: ⟨_, true, [], none, true, fun A => .raw (.int .i64 y6)⟩ :: ⟨_, true, [], none, true, fun A => .raw v0⟩ :: ⟨_, true, [], none, true, fun A => .raw (.int .i64 y6)⟩ :: ⟨_, true, [], none, true, fun A => .qtr E_impl_Test A (gtD p0 y6)⟩ :: ⟨_, true, [], none, true, fun A => .rep E_impl_Test A (gtD p0 y6)⟩ :: ⟨_, true, [], none, true, fun A => .rep E_impl_Test A x10⟩ :: ⟨_, true, [], none, true, fun A => .raw (vptr u2 (y6.toNat * 3))⟩ :: ⟨_, true, [0], some (.vec w0.heap.size 85 E_impl_Test (y7.set y6.toNat x10)), false, fun A => .any⟩ :: []) (by kernel_rfl) (by kernel_rfl) (Wf.mk' (by kernel_rfl) (UAll.cons ust_raw (UAll.cons ust_raw (UAll.cons ust_raw (UAll.cons ust_raw (UAll.cons ust_qtr (UAll.cons ust_rep (UAll.cons ust_rep (UAll.cons ust_raw (UAll.cons ust_any (UAll.nil)))))))))) (by kernel_rfl) (by kernel_rfl)) hO hA ?_ ?_
   ·exact
     OblsR.p (fun A' R' w' ho hd => of_move ((ho.old 3 rfl).trans h3)) <|
     OblsR.p (fun A' R' w' ho hd => of_move ((ho.old 4 rfl).trans h4)) <|
     OblsR.p (fun A' R' w' ho hd => of_move ((ho.old 0 rfl).trans h0)) <|
     OblsR.p (fun A' R' w' ho hd => of_move ((ho.old 4 rfl).trans h4)) <|
     OblsR.p (fun A' R' w' ho hd => by have a0 : R' 16 = v0 := hd.g 0 rfl; have a1 : R' 17 = .int .i64 y6 := hd.g 1 rfl; have ra0 := (f_v0.stp ho.stp).eq a0; exact of_indexAddr ra0 a1 Try.underlying22 Try.sizeOf133 e9) <|
     OblsR.p (fun A' R' w' ho hd => by have a0 : QRep E_impl_Test A' w' (R' 18) (gtD p0 y6) := hd.g 0 rfl; exact (of_load a0.ptr Try.isAgg133 Try.sizeOf133)) <|
     OblsR.p (fun A' R' w' ho hd => by have a0 : Rep E_impl_Test A' w' (R' 19) (gtD p0 y6) := hd.g 0 rfl; exact of_call Try.call108 (M_laws_toTest_ok (q11 rfl) ho.av a0)) <|
     OblsR.p (fun A' R' w' ho hd => by have a0 : R' 14 = u2 := hd.g 0 rfl; have a1 : R' 15 = .int .i64 y6 := hd.g 1 rfl; exact of_indexAddr_vec (hO.ok 0 _ rfl).1 a0 a1 Try.underlying28 Try.sizeOf85 e12 rfl) <|
     OblsR.cons (OblR.took 0 _ _ rfl rfl rfl rfl rfl fun A' R' w' ho hd u hok hav hin hop hds => by have a0 : R' 21 = (vptr u2 (y6.toNat * 3)) := hd.g 0 rfl; have a1 : Rep E_impl_Test A' w' (R' 20) x10 := hd.g 1 rfl; obtain rfl := hin _ rfl; exact took_vstore a1 hok hav a0 e12 rfl (FldS.id _) Try.sizeOf85 rfl) <|
     OblsR.nil
   intro done ρ σ A R w hdn hI
   replace h0 : R 0 = v0 := (hI.reg rfl).trans h0
   replace h3 : R 3 = u2 := (hI.reg rfl).trans h3
   replace h4 : R 4 = .int .i64 y6 := (hI.reg rfl).trans h4
   have z13 := hI.inivR 0 rfl
   have z14 := (hI.opnR hdn 9 8 rfl rfl rfl rfl rfl).trans z13
   replace f_v0 := f_v0.stp hI.stp
   replace hAA := hI.low' hAA hA0 (hO.ge (⟨rfl, trivial⟩))
   replace hF : Fr w0 w := hF.tr hI.ch (hO.ge (⟨rfl, trivial⟩))
   replace hO : IniOK [ob u2 (.vec w0.heap.size 85 E_impl_Test (y7.set y6.toNat x10))] A w := hI.left hdn [(9, ob u2 (.vec w0.heap.size 85 E_impl_Test (y7.set y6.toNat x10)))] ⟨rfl, rfl, z14, rfl, rfl, trivial⟩
   replace hA := hI.avok
   clear hI
   obtain ⟨e15, hr⟩ := ck_some hr
   refine HT.text (l := ⟨_, true, .raw (.int .i64 y6)⟩ :: ⟨_, true, .raw (.int .i64 (y6 + (1 : Int)))⟩ :: ⟨_, true, .raw (.int .i64 (y6 + (1 : Int)))⟩ :: []) (tl := []) (by kernel_rfl) (by kernel_rfl) (by kernel_rfl) ?_ ?_
   ·exact
     Obls.p (fun R' w' hw hs hd => of_move ((hs 4 rfl).trans h4)) <|
     Obls.p (fun R' w' hw hs hd => by have a0 : R' 12 = .int .i64 y6 := hd.g 0 rfl; exact of_add a0 rfl e15) <|
     Obls.p (fun R' w' hw hs hd => by have a0 : R' 13 = .int .i64 (y6 + (1 : Int)) := hd.g 0 rfl; exact of_assign a0) <|
     Obls.nil
   intro R w hw hs hF'
   replace h0 := (hs 0 rfl).trans h0
   replace h3 := (hs 3 rfl).trans h3
   have h4 : R 4 = .int .i64 (y6 + (1 : Int)) := hF' 2 _ _ rfl rfl rfl
   replace f_v0 := f_v0.fr hw
   replace hO := hO.fr hw
   replace hA := hA.fr hw.size
   replace hF := hF.trans hw
   clear hs hF' hw
   refine seqR_nil ?_
   exact Exists.intro k (And.intro (Nat.lt_succ_self k) ⟨_, _, _, hr, hA, hF, hAA, hO, h0, h3, h4, f_v0⟩)
  ·have hr := cnd_f c8 hr
   refine HT.exit ?_
   obtain rfl := Option.some.inj hr
   exact Exists.intro _ ⟨_, rfl, hA, hF, hAA, hO, h3⟩
 rintro R w ⟨A, s5, es, hA, hF, hAA, hO, h3⟩
 obtain rfl := es.symm
 refine HT.seq ?_
 refine HT.text (l := ⟨_, true, .raw u2⟩ :: ⟨_, true, .raw u2⟩ :: []) (tl := []) (by kernel_rfl) (by kernel_rfl) (by kernel_rfl) ?_ ?_
 ·exact
   Obls.p (fun R' w' hw hs hd => of_move ((hs 3 rfl).trans h3)) <|
   Obls.p (fun R' w' hw hs hd => by have a0 : R' 22 = u2 := hd.g 0 rfl; exact of_assign a0) <|
   Obls.nil
 intro R w hw hs hF'
 have h2 : R 2 = u2 := hF' 1 _ _ rfl rfl rfl
 replace hO := hO.fr hw
 replace hA := hA.fr hw.size
 replace hF := hF.trans hw
 clear hs hF' hw
 refine seqR_nil ?_
 refine HT.ret ?_
 obtain rfl := Option.some.inj hr
 exact ⟨.inr rfl, [R 2], ⟨rfl, trivial⟩, (own_post (hO.ok 0 _ rfl) hAA h2), hF⟩
theorem M_laws_toTestS_okR {fu : Nat} {A0 : Av} {p0 : List T_impl_Test} {r : List T_impl_Test} (hr : M_laws_toTestS fu p0 = some r) {w : World} {v0 : Value} (hA : AvOK A0 w) (h0 : Rep (eSl E_impl_Test) A0 w v0 p0) :
  Calls Try.prog 64 #[v0] w fun e w' => ∃ v, e = .returned v ∧ (Rep (eSl E_impl_Test) A0 w' v r ∧ Fr w w') := by
 refine Calls.mono (M_laws_toTestS_ok hr hA h0) ?_
 rintro e w' ⟨v, he, hv, hf⟩
 exact ⟨v, he, vec_rep hv (fun b o h => .inl h) hA, hf⟩
def M_laws_toRule (fu : Nat) (p0 : T_laws_Rule) : Option T_impl_Rule :=
 cl true (M_laws_toTestS fu p0) fun x8 =>
 some x8
theorem M_laws_toRule_ok {fu : Nat} {A0 : Av} {p0 : T_laws_Rule} {r : T_impl_Rule} (hr : M_laws_toRule fu p0 = some r) {w : World} {v0 : Value} (hA : AvOK A0 w) (h0 : Rep E_laws_Rule A0 w v0 p0) :
  Calls Try.prog 17 #[v0] w fun e w' => ∃ v, e = .returned v ∧ (MadeS A0 (trR (geB w.heap.size) (oBx (oSl 85 (oRd E_impl_Test))) r []) (fun _ => .any) w v w') := by
 unfold M_laws_toRule at hr
 obtain ⟨w0, hw0⟩ : ∃ w0, w0 = w := ⟨_, rfl⟩
 have hF : Fr w0 w := hw0 ▸ Fr.refl _
 have hA0 : ∀ b o, A0 b o → b < w0.heap.size := fun b o h => hw0 ▸ hA b o h
 have hA00 : AvOK A0 w0 := hA0
 rw [show MadeS A0 (trR (geB w.heap.size) (oBx (oSl 85 (oRd E_impl_Test))) r []) (fun _ => .any) w = MadeS A0 (trR (geB w0.heap.size) (oBx (oSl 85 (oRd E_impl_Test))) r []) (fun _ => .any) w0 from hw0 ▸ rfl]
 clear hw0
 obtain ⟨A, hAe⟩ : ∃ A, A = A0 := ⟨_, rfl⟩
 have hAA : ∀ b o, A0 b o → A b o := fun b o h => hAe ▸ h
 replace hA : AvOK A w := hAe ▸ hA
 have hO : IniOK [] A w := IniOK.nil
 refine calls_of_HT2 [.cell 2 30] Try.func17 Try.ntmps17 (by decide) rfl rfl (Nat.le_of_ble_eq_true rfl) ?_
 intro R hR
 have f_v0 : Rep E_laws_Rule A w v0 p0 := hAe ▸ h0
 replace h0 : R 0 = v0 := hR 0 _ rfl
 clear hR hAe
 refine HT.seq ?_
 refine HT.textR [] (⟨_, true, [], some (.box w0.heap.size 24 E_laws_Rule p0), true, fun A => .any⟩ :: ⟨_, true, [], some (trR (geB w0.heap.size) (oPt 30 (oBx (oSl 85 (oRd E_impl_Test)))) ([] : List T_impl_Test) []), true, fun A => .any⟩ :: []) (by kernel_rfl) (by kernel_rfl) (Wf.mk' (by kernel_rfl) (UAll.cons ust_any (UAll.cons ust_any (UAll.nil))) (by kernel_rfl) (by kernel_rfl)) hO hA ?_ ?_
 ·exact
   OblsR.cons (OblR.made _ rfl rfl rfl rfl fun A' R' w' ho hd => by have a0 : R' 0 = v0 := (ho.old 0 rfl).trans h0; have ra0 := (f_v0.stp ho.stp).eq a0; exact made_box ra0 (Nat.le_trans hF.size ho.ch.size)) <|
   OblsR.cons (OblR.madeS _ rfl rfl rfl rfl fun A' R' w' ho hd => by exact made_allocT Try.zeroValue30 (fun A w => own_nil) (fun k hk => Nat.le_trans (Nat.le_trans hF.size ho.ch.size) hk)) <|
   OblsR.nil
 intro done ρ σ A R w hdn hI
 obtain ⟨b1_0, e_b1_0⟩ := hI.boxv hdn 0 rfl rfl
 have h1 : R 1 = (.pointer (some ⟨b1_0, 0, none⟩)) := (hI.opvR hdn 0 0 rfl rfl rfl rfl rfl).symm.trans e_b1_0
 obtain ⟨u2, e_u2⟩ : ∃ u, ρ 1 = u := ⟨_, rfl⟩
 have h2 : R 2 = u2 := (hI.opvR hdn 1 1 rfl rfl rfl rfl rfl).symm.trans e_u2
 obtain ⟨S3, eS_u2⟩ : ∃ S, σ 1 = S := ⟨_, rfl⟩
 replace hAA := hI.low' hAA hA0 (hO.ge (trivial))
 replace hF : Fr w0 w := hF.tr hI.ch (hO.ge (trivial))
 replace hO : IniOK [ob (.pointer (some ⟨b1_0, 0, none⟩)) (.box w0.heap.size 24 E_laws_Rule p0), ⟨u2, S3, trR (geB w0.heap.size) (oPt 30 (oBx (oSl 85 (oRd E_impl_Test)))) ([] : List T_impl_Test) []⟩] A w := hI.left hdn [(0, ob (.pointer (some ⟨b1_0, 0, none⟩)) (.box w0.heap.size 24 E_laws_Rule p0)), (1, ⟨u2, S3, trR (geB w0.heap.size) (oPt 30 (oBx (oSl 85 (oRd E_impl_Test)))) ([] : List T_impl_Test) []⟩)] ⟨rfl, rfl, e_b1_0, rfl, rfl, ⟨rfl, rfl, e_u2, eS_u2, rfl, trivial⟩⟩
 replace hA := hI.avok
 clear hI
 refine HT.seq ?_
 refine HT.textR [ob (.pointer (some ⟨b1_0, 0, none⟩)) (.box w0.heap.size 24 E_laws_Rule p0), ⟨u2, S3, trR (geB w0.heap.size) (oPt 30 (oBx (oSl 85 (oRd E_impl_Test)))) ([] : List T_impl_Test) []⟩] (⟨_, true, [], some (trR (geB w0.heap.size) (oPt 30 (oBx (oSl 85 (oRd E_impl_Test)))) ([] : List T_impl_Test) []), true, fun A => .any⟩ :: []) (by kernel_rfl) (by kernel_rfl) (Wf.mk' (by kernel_rfl) (UAll.cons ust_any (UAll.nil)) (by kernel_rfl) (by kernel_rfl)) hO hA ?_ ?_
 ·exact
   OblsR.cons (OblR.madeS _ rfl rfl rfl rfl fun A' R' w' ho hd => by exact made_allocT Try.zeroValue30 (fun A w => own_nil) (fun k hk => Nat.le_trans (Nat.le_trans hF.size ho.ch.size) hk)) <|
   OblsR.nil
 intro done ρ σ A R w hdn hI
 replace h1 : R 1 = (.pointer (some ⟨b1_0, 0, none⟩)) := (hI.reg rfl).trans h1
 replace h2 : R 2 = u2 := (hI.reg rfl).trans h2
 have z4 := hI.inivR 0 rfl
 have z5 := hI.inivR 1 rfl
 obtain ⟨u6, e_u6⟩ : ∃ u, ρ 2 = u := ⟨_, rfl⟩
 have h3 : R 3 = u6 := (hI.opvR hdn 2 0 rfl rfl rfl rfl rfl).symm.trans e_u6
 have eS_u2 := hI.inisR 1 rfl
 obtain ⟨S7, eS_u6⟩ : ∃ S, σ 2 = S := ⟨_, rfl⟩
 replace hAA := hI.low' hAA hA0 (hO.ge (⟨rfl, ⟨fun _ h => h, trivial⟩⟩))
 replace hF : Fr w0 w := hF.tr hI.ch (hO.ge (⟨rfl, ⟨fun _ h => h, trivial⟩⟩))
 replace hO : IniOK [ob (.pointer (some ⟨b1_0, 0, none⟩)) (.box w0.heap.size 24 E_laws_Rule p0), ⟨u2, S3, trR (geB w0.heap.size) (oPt 30 (oBx (oSl 85 (oRd E_impl_Test)))) ([] : List T_impl_Test) []⟩, ⟨u6, S7, trR (geB w0.heap.size) (oPt 30 (oBx (oSl 85 (oRd E_impl_Test)))) ([] : List T_impl_Test) []⟩] A w := hI.left hdn [(0, ob (.pointer (some ⟨b1_0, 0, none⟩)) (.box w0.heap.size 24 E_laws_Rule p0)), (1, ⟨u2, S3, trR (geB w0.heap.size) (oPt 30 (oBx (oSl 85 (oRd E_impl_Test)))) ([] : List T_impl_Test) []⟩), (2, ⟨u6, S7, trR (geB w0.heap.size) (oPt 30 (oBx (oSl 85 (oRd E_impl_Test)))) ([] : List T_impl_Test) []⟩)] ⟨rfl, rfl, z4, rfl, rfl, ⟨rfl, rfl, z5, eS_u2, rfl, ⟨rfl, rfl, e_u6, eS_u6, rfl, trivial⟩⟩⟩
 replace hA := hI.avok
 clear hI
 refine HT.seq ?_
 obtain ⟨x8, q9, hr⟩ := cl_some hr
 refine HT.textR [ob (.pointer (some ⟨b1_0, 0, none⟩)) (.box w0.heap.size 24 E_laws_Rule p0), ⟨u2, S3, trR (geB w0.heap.size) (oPt 30 (oBx (oSl 85 (oRd E_impl_Test)))) ([] : List T_impl_Test) []⟩, ⟨u6, S7, trR (geB w0.heap.size) (oPt 30 (oBx (oSl 85 (oRd E_impl_Test)))) ([] : List T_impl_Test) []⟩] (⟨_, true, [], none, true, fun A => .raw (.pointer (some ⟨b1_0, 0, none⟩))⟩ :: ⟨_, true, [], none, true, fun A => .rep (eSl E_impl_Test) A p0⟩ :: ⟨_, true, [], some (.vec w0.heap.size 85 E_impl_Test x8), true, fun A => .any⟩ :: ⟨_, true, [], none, true, fun A => .raw u6⟩ :: ⟨_, true, [2, 5], some (trR (geB w0.heap.size) (oPt 30 (oBx (oSl 85 (oRd E_impl_Test)))) x8 []), false, fun A => .any⟩ :: []) (by kernel_rfl) (by kernel_rfl) (Wf.mk' (by kernel_rfl) (UAll.cons ust_raw (UAll.cons ust_rep (UAll.cons ust_any (UAll.cons ust_raw (UAll.cons ust_any (UAll.nil)))))) (by kernel_rfl) (by kernel_rfl)) hO hA ?_ ?_
 ·exact
   OblsR.p (fun A' R' w' ho hd => of_fieldAddr_raw ((ho.old 1 rfl).trans h1) ff_24_0 Try.sizeOf22 (by decide) rfl) <|
   OblsR.p (fun A' R' w' ho hd => by have a0 : R' 4 = (.pointer (some ⟨b1_0, 0, none⟩)) := hd.g 0 rfl; exact (of_load_box (ho.rd 0 _ rfl rfl) a0 fl_laws_Rule_0 rfl Try.isAgg22 Try.sizeOf22)) <|
   OblsR.cons (OblR.made _ rfl rfl rfl rfl fun A' R' w' ho hd => by have a0 : Rep (eSl E_impl_Test) A' w' (R' 5) p0 := hd.g 0 rfl; exact made_call Try.call64 (M_laws_toTestS_ok (q9 rfl) ho.av a0) (Nat.le_trans hF.size ho.ch.size)) <|
   OblsR.p (fun A' R' w' ho hd => of_fieldAddr_tr ((tr_root (hO.own 2 _ rfl).2).ptr).ad ((ho.old 3 rfl).trans h3) ff_30_0 Try.sizeOf28 (by decide) (padd_zero ((tr_root (hO.own 2 _ rfl).2).ptr).ad)) <|
   OblsR.cons (OblR.tookM 2 [5] _ rfl rfl rfl rfl fun A' R' w' ho hd ρ σ hok hav hin hop hds hdd => by have a0 : R' 7 = u6 := hd.g 0 rfl; have k1 := hok 2 (.head _) _ rfl; have e0 := (hin 2 (.head _) _ rfl).1; rw [e0] at k1 ⊢; exact took_put2 rfl ((tr_root k1.2.2).ptr).bx (own_of_vec' (hok 5 (.tail _ (.head _)) _ rfl).1 (hok 5 (.tail _ (.head _)) _ rfl).2) (hop 5 (.tail _ (.head _)) _ _ rfl rfl rfl rfl).symm a0 hav hdd k1.2.1 (vec_ge (hok 5 (.tail _ (.head _)) _ rfl).1 (hok 5 (.tail _ (.head _)) _ rfl).2) Try.sizeOf28 (fun _ _ _ h => h)) <|
   OblsR.nil
 intro done ρ σ A R w hdn hI
 replace h2 : R 2 = u2 := (hI.reg rfl).trans h2
 replace h3 : R 3 = u6 := (hI.reg rfl).trans h3
 have z10 := hI.inivR 0 rfl
 have z11 := hI.inivR 1 rfl
 have z12 := hI.inivR 2 rfl
 have z13 := (hI.opnR hdn 7 4 rfl rfl rfl rfl rfl).trans z12
 have eS_u2 := hI.inisR 1 rfl
 obtain ⟨S14, eS_u6⟩ : ∃ S, σ 7 = S := ⟨_, rfl⟩
 replace hAA := hI.low' hAA hA0 (hO.ge (⟨rfl, ⟨fun _ h => h, ⟨fun _ h => h, trivial⟩⟩⟩))
 replace hF : Fr w0 w := hF.tr hI.ch (hO.ge (⟨rfl, ⟨fun _ h => h, ⟨fun _ h => h, trivial⟩⟩⟩))
 replace hO : IniOK [⟨u2, S3, trR (geB w0.heap.size) (oPt 30 (oBx (oSl 85 (oRd E_impl_Test)))) ([] : List T_impl_Test) []⟩, ⟨u6, S14, trR (geB w0.heap.size) (oPt 30 (oBx (oSl 85 (oRd E_impl_Test)))) x8 []⟩] A w := hI.left hdn [(1, ⟨u2, S3, trR (geB w0.heap.size) (oPt 30 (oBx (oSl 85 (oRd E_impl_Test)))) ([] : List T_impl_Test) []⟩), (7, ⟨u6, S14, trR (geB w0.heap.size) (oPt 30 (oBx (oSl 85 (oRd E_impl_Test)))) x8 []⟩)] ⟨rfl, rfl, z11, eS_u2, rfl, ⟨rfl, rfl, z13, eS_u6, rfl, trivial⟩⟩
 replace hA := hI.avok
 clear hI
 refine HT.seq ?_
 refine HT.textR [⟨u2, S3, trR (geB w0.heap.size) (oPt 30 (oBx (oSl 85 (oRd E_impl_Test)))) ([] : List T_impl_Test) []⟩, ⟨u6, S14, trR (geB w0.heap.size) (oPt 30 (oBx (oSl 85 (oRd E_impl_Test)))) x8 []⟩] (⟨_, true, [1], some (trR (geB w0.heap.size) (oBx (oSl 85 (oRd E_impl_Test))) x8 []), true, fun A => .any⟩ :: ⟨_, true, [0, 2], some (trR (geB w0.heap.size) (oPt 30 (oBx (oSl 85 (oRd E_impl_Test)))) x8 []), false, fun A => .any⟩ :: []) (by kernel_rfl) (by kernel_rfl) (Wf.mk' (by kernel_rfl) (UAll.cons ust_any (UAll.cons ust_any (UAll.nil))) (by kernel_rfl) (by kernel_rfl)) hO hA ?_ ?_
 ·exact
   OblsR.cons (OblR.tookS 1 _ _ rfl rfl rfl rfl rfl fun A' R' w' ho hd u S hok hown hav hin hop hds => by have a0 : R' 3 = u6 := (ho.old 3 rfl).trans h3; exact took_loadT hown.2 (a0.trans (hin _ rfl).1.symm) hav hown.1 Try.isAgg30 Try.sizeOf30) <|
   OblsR.cons (OblR.tookM 0 [2] _ rfl rfl rfl rfl fun A' R' w' ho hd ρ σ hok hav hin hop hds hdd => by have a0 : R' 2 = u2 := (ho.old 2 rfl).trans h2; have k1 := hok 0 (.head _) _ rfl; have e0 := (hin 0 (.head _) _ rfl).1; rw [e0] at k1 ⊢; exact took_put2 rfl (tr_root k1.2.2).ptr (hok 2 (.tail _ (.head _)) _ rfl).2.2.1 (hop 2 (.tail _ (.head _)) _ _ rfl rfl rfl rfl).symm a0 hav hdd k1.2.1 (hok 2 (.tail _ (.head _)) _ rfl).2.1 Try.sizeOf30 (fun _ _ _ h => h)) <|
   OblsR.nil
 intro done ρ σ A R w hdn hI
 replace h2 : R 2 = u2 := (hI.reg rfl).trans h2
 have z15 := hI.inivR 0 rfl
 have z16 := (hI.opnR hdn 3 1 rfl rfl rfl rfl rfl).trans z15
 obtain ⟨S17, eS_u2⟩ : ∃ S, σ 3 = S := ⟨_, rfl⟩
 replace hAA := hI.low' hAA hA0 (hO.ge (⟨fun _ h => h, ⟨fun _ h => h, trivial⟩⟩))
 replace hF : Fr w0 w := hF.tr hI.ch (hO.ge (⟨fun _ h => h, ⟨fun _ h => h, trivial⟩⟩))
 replace hO : IniOK [⟨u2, S17, trR (geB w0.heap.size) (oPt 30 (oBx (oSl 85 (oRd E_impl_Test)))) x8 []⟩] A w := hI.left hdn [(3, ⟨u2, S17, trR (geB w0.heap.size) (oPt 30 (oBx (oSl 85 (oRd E_impl_Test)))) x8 []⟩)] ⟨rfl, rfl, z16, eS_u2, rfl, trivial⟩
 replace hA := hI.avok
 clear hI
 refine HT.ret ?_
 obtain rfl := Option.some.inj hr
 obtain ⟨v_, e_, p_⟩ := tree_post_cell (T := 30) (f := fun _ => .any) rfl (hO.own 0 _ rfl) (hO.ok 0 _ rfl).2 hAA hF h2 Try.isAgg30 Try.sizeOf30 (fun _ _ => trivial)
 exact ⟨.inr rfl, [v_], ⟨e_, trivial⟩, p_⟩
theorem M_laws_toRule_okR {fu : Nat} {A0 : Av} {p0 : T_laws_Rule} {r : T_impl_Rule} (hr : M_laws_toRule fu p0 = some r) {w : World} {v0 : Value} (hA : AvOK A0 w) (h0 : Rep E_laws_Rule A0 w v0 p0) :
  Calls Try.prog 17 #[v0] w fun e w' => ∃ v, e = .returned v ∧ (Rep E_impl_Rule A0 w' v r ∧ Fr w w') := by
 refine Calls.mono (M_laws_toRule_ok hr hA h0) ?_
 rintro e w' ⟨v, he, h⟩
 exact ⟨v, he, madeS_rep h hA⟩
def M_laws_toRuleS_L0 (fu : Nat) (p0 : List T_laws_Rule) : Nat → Int → (List T_impl_Rule) → Option (List T_impl_Rule)
 | 0, _, _ => none
 | k + 1, y7, y8 =>
  bif (decide (y7 < (p0.length : Int))) then (
   ck (inR y7 p0.length) <|
   cl true (M_laws_toRule fu (gtD p0 y7)) fun x11 =>
   ck (inR y7 y8.length) <|
   ck (i64B (y7 + (1 : Int))) <|
   M_laws_toRuleS_L0 fu p0 k (y7 + (1 : Int)) (y8.set y7.toNat x11)
  ) else (
   some y8
  )
def M_laws_toRuleS (fu : Nat) (p0 : List T_laws_Rule) : Option (List T_impl_Rule) :=
 ck (mkOK (p0.length : Int)) <|
 cl true (M_laws_toRuleS_L0 fu p0 fu (0 : Int) (List.replicate (p0.length : Int).toNat ([] : List T_impl_Test))) fun s6 =>
 some s6
theorem M_laws_toRuleS_ok {fu : Nat} {A0 : Av} {p0 : List T_laws_Rule} {r : List T_impl_Rule} (hr : M_laws_toRuleS fu p0 = some r) {w : World} {v0 : Value} (hA : AvOK A0 w) (h0 : Rep (eSl E_laws_Rule) A0 w v0 p0) :
  Calls Try.prog 85 #[v0] w fun e w' => ∃ v, e = .returned v ∧ (MadeS A0 (trR (geB w.heap.size) (oSl 30 (oBx (oSl 85 (oRd E_impl_Test)))) r []) (fun _ => .any) w v w') := by
 unfold M_laws_toRuleS at hr
 obtain ⟨w0, hw0⟩ : ∃ w0, w0 = w := ⟨_, rfl⟩
 have hF : Fr w0 w := hw0 ▸ Fr.refl _
 have hA0 : ∀ b o, A0 b o → b < w0.heap.size := fun b o h => hw0 ▸ hA b o h
 have hA00 : AvOK A0 w0 := hA0
 rw [show MadeS A0 (trR (geB w.heap.size) (oSl 30 (oBx (oSl 85 (oRd E_impl_Test)))) r []) (fun _ => .any) w = MadeS A0 (trR (geB w0.heap.size) (oSl 30 (oBx (oSl 85 (oRd E_impl_Test)))) r []) (fun _ => .any) w0 from hw0 ▸ rfl]
 clear hw0
 obtain ⟨A, hAe⟩ : ∃ A, A = A0 := ⟨_, rfl⟩
 have hAA : ∀ b o, A0 b o → A b o := fun b o h => hAe ▸ h
 replace hA : AvOK A w := hAe ▸ hA
 have hO : IniOK [] A w := IniOK.nil
 refine calls_of_HT2 [.tmp 2] Try.func85 Try.ntmps85 (by decide) rfl rfl (Nat.le_of_ble_eq_true rfl) ?_
 intro R hR
 have f_v0 : Rep (eSl E_laws_Rule) A w v0 p0 := hAe ▸ h0
 replace h0 : R 0 = v0 := hR 0 _ rfl
 clear hR hAe
 refine HT.seq ?_
 refine HT.text (l := ⟨_, true, .any⟩ :: []) (tl := []) (by kernel_rfl) (by kernel_rfl) (by kernel_rfl) ?_ ?_
 ·exact
   Obls.p (fun R' w' hw hs hd => of_assign trivial) <|
   Obls.nil
 intro R w hw hs hF'
 replace h0 := (hs 0 rfl).trans h0
 replace f_v0 := f_v0.fr hw
 replace hO := hO.fr hw
 replace hA := hA.fr hw.size
 replace hF := hF.trans hw
 clear hs hF' hw
 refine seqR_nil ?_
 refine HT.seq ?_
 obtain ⟨e1, hr⟩ := ck_some hr
 refine HT.textR [] (⟨_, true, [], none, true, fun A => .raw v0⟩ :: ⟨_, true, [], none, true, fun A => .raw (.int .i64 (p0.length : Int))⟩ :: ⟨_, true, [], some (trR (geB w0.heap.size) (oSl 30 (oBx (oSl 85 (oRd E_impl_Test)))) (List.replicate (p0.length : Int).toNat ([] : List T_impl_Test)) []), true, fun A => .any⟩ :: ⟨_, true, [2], some (trR (geB w0.heap.size) (oSl 30 (oBx (oSl 85 (oRd E_impl_Test)))) (List.replicate (p0.length : Int).toNat ([] : List T_impl_Test)) []), true, fun A => .any⟩ :: []) (by kernel_rfl) (by kernel_rfl) (Wf.mk' (by kernel_rfl) (UAll.cons ust_raw (UAll.cons ust_raw (UAll.cons ust_any (UAll.cons ust_any (UAll.nil))))) (by kernel_rfl) (by kernel_rfl)) hO hA ?_ ?_
 ·exact
   OblsR.p (fun A' R' w' ho hd => of_move ((ho.old 0 rfl).trans h0)) <|
   OblsR.p (fun A' R' w' ho hd => by have a0 : R' 5 = v0 := hd.g 0 rfl; have ra0 := (f_v0.stp ho.stp).eq a0; exact of_len_sl (aT := #[]) ra0 Try.underlying55) <|
   OblsR.cons (OblR.madeS _ rfl rfl rfl rfl fun A' R' w' ho hd => by have a0 : R' 6 = .int .i64 (p0.length : Int) := hd.g 0 rfl; have a1 : R' 6 = .int .i64 (p0.length : Int) := hd.g 0 rfl; exact made_makeT a0 a1 e1 Try.underlying60 el_30 Try.zeroValue30 (fun A w => own_nil) (fun k hk => Nat.le_trans (Nat.le_trans hF.size ho.ch.size) hk)) <|
   OblsR.cons (OblR.tookS 2 _ _ rfl rfl rfl rfl rfl fun A' R' w' ho hd u S hok hown hav hin hop hds => by exact took_assignT (hop _ _ rfl rfl rfl rfl).symm (trP.nopin hown.2) hav hown.1) <|
   OblsR.nil
 intro done ρ σ A R w hdn hI
 replace h0 : R 0 = v0 := (hI.reg rfl).trans h0
 obtain ⟨u2, e_u2⟩ : ∃ u, ρ 3 = u := ⟨_, rfl⟩
 have h3 : R 3 = u2 := (hI.opvR hdn 3 3 rfl rfl rfl rfl rfl).symm.trans e_u2
 obtain ⟨S3, eS_u2⟩ : ∃ S, σ 3 = S := ⟨_, rfl⟩
 replace f_v0 := f_v0.stp hI.stp
 replace hAA := hI.low' hAA hA0 (hO.ge (trivial))
 replace hF : Fr w0 w := hF.tr hI.ch (hO.ge (trivial))
 replace hO : IniOK [⟨u2, S3, trR (geB w0.heap.size) (oSl 30 (oBx (oSl 85 (oRd E_impl_Test)))) (List.replicate (p0.length : Int).toNat ([] : List T_impl_Test)) []⟩] A w := hI.left hdn [(3, ⟨u2, S3, trR (geB w0.heap.size) (oSl 30 (oBx (oSl 85 (oRd E_impl_Test)))) (List.replicate (p0.length : Int).toNat ([] : List T_impl_Test)) []⟩)] ⟨rfl, rfl, e_u2, eS_u2, rfl, trivial⟩
 replace hA := hI.avok
 clear hI
 refine HT.seq ?_
 refine HT.seq ?_
 refine HT.text (l := ⟨_, true, .raw (.int .i64 (0 : Int))⟩ :: []) (tl := []) (by kernel_rfl) (by kernel_rfl) (by kernel_rfl) ?_ ?_
 ·exact
   Obls.p (fun R' w' hw hs hd => of_assign rfl) <|
   Obls.nil
 intro R w hw hs hF'
 replace h0 := (hs 0 rfl).trans h0
 replace h3 := (hs 3 rfl).trans h3
 have h4 : R 4 = .int .i64 (0 : Int) := hF' 0 _ _ rfl rfl rfl
 replace f_v0 := f_v0.fr hw
 replace hO := hO.fr hw
 replace hA := hA.fr hw.size
 replace hF := hF.trans hw
 clear hs hF' hw
 refine seqR_nil ?_
 obtain ⟨rl4, q5, hr⟩ := cl_some hr
 replace q5 := q5 rfl
 refine HT.cut0 (fun R w => ∃ A : Av, ∃ (s6 : (List T_impl_Rule)) (So_u2 : Nat → Prop), rl4 = s6 ∧ AvOK A w ∧ Fr w0 w ∧ (∀ b o, A0 b o → A b o) ∧ IniOK [⟨u2, So_u2, trR (geB w0.heap.size) (oSl 30 (oBx (oSl 85 (oRd E_impl_Test)))) s6 []⟩] A w ∧ R 3 = u2) ?_ ?_
 ·refine HT.block ?_
  refine HT.loop (fun k R w => ∃ A : Av, ∃ (y7 : Int) (y8 : List T_impl_Rule) (Sl_u2 : Nat → Prop), M_laws_toRuleS_L0 fu p0 k y7 y8 = some rl4 ∧ AvOK A w ∧ Fr w0 w ∧ (∀ b o, A0 b o → A b o) ∧ IniOK [⟨u2, Sl_u2, trR (geB w0.heap.size) (oSl 30 (oBx (oSl 85 (oRd E_impl_Test)))) y8 []⟩] A w ∧ R 0 = v0 ∧ R 3 = u2 ∧ R 4 = .int .i64 y7 ∧ Rep (eSl E_laws_Rule) A w v0 p0) fu ⟨_, _, _, S3, q5, hA, hF, hAA, hO, h0, h3, h4, f_v0⟩ ?_
  have hr0 := hr; clear hr q5
  rintro k R w ⟨A, y7, y8, Sl_u2, hr, hA, hF, hAA, hO, h0, h3, h4, f_v0⟩
  rcases k with _ | k
  ·cases (show none = some _ from hr)
  rw [M_laws_toRuleS_L0] at hr
  refine HT.seq ?_
  refine HT.seq ?_
  refine HT.text (l := ⟨_, true, .raw (.int .i64 y7)⟩ :: ⟨_, true, .raw v0⟩ :: ⟨_, true, .raw (.int .i64 (p0.length : Int))⟩ :: ⟨_, true, .raw (.bool (decide (y7 < (p0.length : Int))))⟩ :: []) (tl := []) (by kernel_rfl) (by kernel_rfl) (by kernel_rfl) ?_ ?_
  ·exact
    Obls.p (fun R' w' hw hs hd => of_move ((hs 4 rfl).trans h4)) <|
    Obls.p (fun R' w' hw hs hd => of_move ((hs 0 rfl).trans h0)) <|
    Obls.p (fun R' w' hw hs hd => by have a0 : R' 9 = v0 := hd.g 0 rfl; have ra0 := (f_v0.fr hw).eq a0; exact of_len_sl (aT := #[]) ra0 Try.underlying55) <|
    Obls.p (fun R' w' hw hs hd => by have a0 : R' 8 = .int .i64 y7 := hd.g 0 rfl; have a1 : R' 10 = .int .i64 (p0.length : Int) := hd.g 1 rfl; exact of_lss a0 a1) <|
    Obls.nil
  intro R w hw hs hF'
  replace h0 := (hs 0 rfl).trans h0
  replace h3 := (hs 3 rfl).trans h3
  replace h4 := (hs 4 rfl).trans h4
  have h11 : R 11 = .bool (decide (y7 < (p0.length : Int))) := hF' 3 _ _ rfl rfl rfl
  replace f_v0 := f_v0.fr hw
  replace hO := hO.fr hw
  replace hA := hA.fr hw.size
  replace hF := hF.trans hw
  clear hs hF' hw
  refine seqR_nil ?_
  refine HT.cond (decide (y7 < (p0.length : Int))) h11 (fun c9 => ?_) (fun c9 => ?_)
  ·have hr := cnd_t c9 hr
   refine HT.skip ?_
   refine HT.seq ?_
   refine HT.block ?_
   obtain ⟨e10, hr⟩ := ck_some hr
   obtain ⟨x11, q12, hr⟩ := cl_some hr
   obtain ⟨e13, hr⟩ := ck_some hr
   refine HT.textR [⟨u2, Sl_u2, trR (geB w0.heap.size) (oSl 30 (oBx (oSl 85 (oRd E_impl_Test)))) y8 []⟩] (⟨_, true, [], none, true, fun A => .raw u2⟩ :: ⟨_, true, [], none, true, fun A => .raw (.int .i64 y7)⟩ :: ⟨_, true, [], none, true, fun A => .raw v0⟩ :: ⟨_, true, [], none, true, fun A => .raw (.int .i64 y7)⟩ :: ⟨_, true, [], none, true, fun A => .qtr E_laws_Rule A (gtD p0 y7)⟩ :: ⟨_, true, [], none, true, fun A => .rep E_laws_Rule A (gtD p0 y7)⟩ :: ⟨_, true, [], some (trR (geB w0.heap.size) (oBx (oSl 85 (oRd E_impl_Test))) x11 []), true, fun A => .any⟩ :: ⟨_, true, [], none, true, fun A => .raw (vptr u2 (y7.toNat * 1))⟩ :: ⟨_, true, [0, 7], some (trR (geB w0.heap.size) (oSl 30 (oBx (oSl 85 (oRd E_impl_Test)))) (y8.set y7.toNat x11) []), false, fun A => .any⟩ :: []) (by kernel_rfl) (by kernel_rfl) (Wf.mk' (by kernel_rfl) (UAll.cons ust_raw (UAll.cons ust_raw (UAll.cons ust_raw (UAll.cons ust_raw (UAll.cons ust_qtr (UAll.cons ust_rep (UAll.cons ust_any (UAll.cons ust_raw (UAll.cons ust_any (UAll.nil)))))))))) (by kernel_rfl) (by kernel_rfl)) hO hA ?_ ?_
   ·exact
     OblsR.p (fun A' R' w' ho hd => of_move ((ho.old 3 rfl).trans h3)) <|
     OblsR.p (fun A' R' w' ho hd => of_move ((ho.old 4 rfl).trans h4)) <|
     OblsR.p (fun A' R' w' ho hd => of_move ((ho.old 0 rfl).trans h0)) <|
     OblsR.p (fun A' R' w' ho hd => of_move ((ho.old 4 rfl).trans h4)) <|
     OblsR.p (fun A' R' w' ho hd => by have a0 : R' 16 = v0 := hd.g 0 rfl; have a1 : R' 17 = .int .i64 y7 := hd.g 1 rfl; have ra0 := (f_v0.stp ho.stp).eq a0; exact of_indexAddr ra0 a1 Try.underlying55 Try.sizeOf24 e10) <|
     OblsR.p (fun A' R' w' ho hd => by have a0 : QRep E_laws_Rule A' w' (R' 18) (gtD p0 y7) := hd.g 0 rfl; exact (of_load a0.ptr Try.isAgg24 Try.sizeOf24)) <|
     OblsR.cons (OblR.madeS _ rfl rfl rfl rfl fun A' R' w' ho hd => by have a0 : Rep E_laws_Rule A' w' (R' 19) (gtD p0 y7) := hd.g 0 rfl; exact made_callT Try.call17 (M_laws_toRule_ok (q12 rfl) ho.av a0) (fun k hk => Nat.le_trans (Nat.le_trans hF.size ho.ch.size) hk)) <|
     OblsR.p (fun A' R' w' ho hd => by have a0 : R' 14 = u2 := hd.g 0 rfl; have a1 : R' 15 = .int .i64 y7 := hd.g 1 rfl; exact of_indexAddr_tr (tr_root (hO.own 0 _ rfl).2) a0 a1 Try.underlying60 Try.sizeOf30 e13 rfl) <|
     OblsR.cons (OblR.tookM 0 [7] _ rfl rfl rfl rfl fun A' R' w' ho hd ρ σ hok hav hin hop hds hdd => by have a0 : R' 21 = (vptr u2 (y7.toNat * 1)) := hd.g 0 rfl; have k1 := hok 0 (.head _) _ rfl; have e0 := (hin 0 (.head _) _ rfl).1; rw [e0] at k1 ⊢; exact took_put2 rfl ((tr_root k1.2.2).elem e13 rfl) (hok 7 (.tail _ (.head _)) _ rfl).2.2.1 (hop 7 (.tail _ (.head _)) _ _ rfl rfl rfl rfl).symm a0 hav hdd k1.2.1 (hok 7 (.tail _ (.head _)) _ rfl).2.1 Try.sizeOf30 (fun _ _ _ h => h)) <|
     OblsR.nil
   intro done ρ σ A R w hdn hI
   replace h0 : R 0 = v0 := (hI.reg rfl).trans h0
   replace h3 : R 3 = u2 := (hI.reg rfl).trans h3
   replace h4 : R 4 = .int .i64 y7 := (hI.reg rfl).trans h4
   have z14 := hI.inivR 0 rfl
   have z15 := (hI.opnR hdn 9 8 rfl rfl rfl rfl rfl).trans z14
   obtain ⟨S16, eS_u2⟩ : ∃ S, σ 9 = S := ⟨_, rfl⟩
   replace f_v0 := f_v0.stp hI.stp
   replace hAA := hI.low' hAA hA0 (hO.ge (⟨fun _ h => h, trivial⟩))
   replace hF : Fr w0 w := hF.tr hI.ch (hO.ge (⟨fun _ h => h, trivial⟩))
   replace hO : IniOK [⟨u2, S16, trR (geB w0.heap.size) (oSl 30 (oBx (oSl 85 (oRd E_impl_Test)))) (y8.set y7.toNat x11) []⟩] A w := hI.left hdn [(9, ⟨u2, S16, trR (geB w0.heap.size) (oSl 30 (oBx (oSl 85 (oRd E_impl_Test)))) (y8.set y7.toNat x11) []⟩)] ⟨rfl, rfl, z15, eS_u2, rfl, trivial⟩
   replace hA := hI.avok
   clear hI
   obtain ⟨e17, hr⟩ := ck_some hr
   refine HT.text (l := ⟨_, true, .raw (.int .i64 y7)⟩ :: ⟨_, true, .raw (.int .i64 (y7 + (1 : Int)))⟩ :: ⟨_, true, .raw (.int .i64 (y7 + (1 : Int)))⟩ :: []) (tl := []) (by kernel_rfl) (by kernel_rfl) (by kernel_rfl) ?_ ?_
   ·exact
     Obls.p (fun R' w' hw hs hd => of_move ((hs 4 rfl).trans h4)) <|
     Obls.p (fun R' w' hw hs hd => by have a0 : R' 12 = .int .i64 y7 := hd.g 0 rfl; exact of_add a0 rfl e17) <|
     Obls.p (fun R' w' hw hs hd => by have a0 : R' 13 = .int .i64 (y7 + (1 : Int)) := hd.g 0 rfl; exact of_assign a0) <|
     Obls.nil
   intro R w hw hs hF'
   replace h0 := (hs 0 rfl).trans h0
   replace h3 := (hs 3 rfl).trans h3
   have h4 : R 4 = .int .i64 (y7 + (1 : Int)) := hF' 2 _ _ rfl rfl rfl
   replace f_v0 := f_v0.fr hw
   replace hO := hO.fr hw
   replace hA := hA.fr hw.size
   replace hF := hF.trans hw
   clear hs hF' hw
   refine seqR_nil ?_
   exact Exists.intro k (And.intro (Nat.lt_succ_self k) ⟨_, _, _, S16, hr, hA, hF, hAA, hO, h0, h3, h4, f_v0⟩)
  ·have hr := cnd_f c9 hr
   refine HT.exit ?_
   obtain rfl := Option.some.inj hr
   exact Exists.intro _ ⟨_, Sl_u2, rfl, hA, hF, hAA, hO, h3⟩
 rintro R w ⟨A, s6, So_u2, es, hA, hF, hAA, hO, h3⟩
 obtain rfl := es.symm
 refine HT.seq ?_
 refine HT.textR [⟨u2, So_u2, trR (geB w0.heap.size) (oSl 30 (oBx (oSl 85 (oRd E_impl_Test)))) s6 []⟩] (⟨_, true, [], none, true, fun A => .raw u2⟩ :: ⟨_, true, [], none, true, fun A => .raw u2⟩ :: []) (by kernel_rfl) (by kernel_rfl) (Wf.mk' (by kernel_rfl) (UAll.cons ust_raw (UAll.cons ust_raw (UAll.nil))) (by kernel_rfl) (by kernel_rfl)) hO hA ?_ ?_
 ·exact
   OblsR.p (fun A' R' w' ho hd => of_move ((ho.old 3 rfl).trans h3)) <|
   OblsR.p (fun A' R' w' ho hd => by have a0 : R' 22 = u2 := hd.g 0 rfl; exact of_assign a0) <|
   OblsR.nil
 intro done ρ σ A R w hdn hI
 have z18 := hI.inivR 0 rfl
 have eS_u2 := hI.inisR 0 rfl
 have h2 : R 2 = u2 := hI.fact hdn (i := 1) rfl rfl rfl
 replace hAA := hI.low' hAA hA0 (hO.ge (⟨fun _ h => h, trivial⟩))
 replace hF : Fr w0 w := hF.tr hI.ch (hO.ge (⟨fun _ h => h, trivial⟩))
 replace hO : IniOK [⟨u2, So_u2, trR (geB w0.heap.size) (oSl 30 (oBx (oSl 85 (oRd E_impl_Test)))) s6 []⟩] A w := hI.left hdn [(0, ⟨u2, So_u2, trR (geB w0.heap.size) (oSl 30 (oBx (oSl 85 (oRd E_impl_Test)))) s6 []⟩)] ⟨rfl, rfl, z18, eS_u2, rfl, trivial⟩
 replace hA := hI.avok
 clear hI
 refine HT.ret ?_
 obtain rfl := Option.some.inj hr
 exact ⟨.inr rfl, [R 2], ⟨rfl, trivial⟩, tree_post rfl (hO.own 0 _ rfl) (hO.ok 0 _ rfl).2 hAA hF h2 trivial⟩
theorem M_laws_toRuleS_okR {fu : Nat} {A0 : Av} {p0 : List T_laws_Rule} {r : List T_impl_Rule} (hr : M_laws_toRuleS fu p0 = some r) {w : World} {v0 : Value} (hA : AvOK A0 w) (h0 : Rep (eSl E_laws_Rule) A0 w v0 p0) :
  Calls Try.prog 85 #[v0] w fun e w' => ∃ v, e = .returned v ∧ (Rep (eSl E_impl_Rule) A0 w' v r ∧ Fr w w') := by
 refine Calls.mono (M_laws_toRuleS_ok hr hA h0) ?_
 rintro e w' ⟨v, he, h⟩
 exact ⟨v, he, madeS_rep h hA⟩
def M_laws_toRuleSet (fu : Nat) (p0 : T_laws_RuleSet) : Option T_impl_RuleSet :=
 cl true (M_laws_toRuleS fu p0) fun x8 =>
 some x8
theorem M_laws_toRuleSet_ok {fu : Nat} {A0 : Av} {p0 : T_laws_RuleSet} {r : T_impl_RuleSet} (hr : M_laws_toRuleSet fu p0 = some r) {w : World} {v0 : Value} (hA : AvOK A0 w) (h0 : Rep E_laws_RuleSet A0 w v0 p0) :
  Calls Try.prog 34 #[v0] w fun e w' => ∃ v, e = .returned v ∧ (MadeS A0 (trR (geB w.heap.size) (oBx (oSl 30 (oBx (oSl 85 (oRd E_impl_Test))))) r []) (fun _ => .any) w v w') := by
 unfold M_laws_toRuleSet at hr
 obtain ⟨w0, hw0⟩ : ∃ w0, w0 = w := ⟨_, rfl⟩
 have hF : Fr w0 w := hw0 ▸ Fr.refl _
 have hA0 : ∀ b o, A0 b o → b < w0.heap.size := fun b o h => hw0 ▸ hA b o h
 have hA00 : AvOK A0 w0 := hA0
 rw [show MadeS A0 (trR (geB w.heap.size) (oBx (oSl 30 (oBx (oSl 85 (oRd E_impl_Test))))) r []) (fun _ => .any) w = MadeS A0 (trR (geB w0.heap.size) (oBx (oSl 30 (oBx (oSl 85 (oRd E_impl_Test))))) r []) (fun _ => .any) w0 from hw0 ▸ rfl]
 clear hw0
 obtain ⟨A, hAe⟩ : ∃ A, A = A0 := ⟨_, rfl⟩
 have hAA : ∀ b o, A0 b o → A b o := fun b o h => hAe ▸ h
 replace hA : AvOK A w := hAe ▸ hA
 have hO : IniOK [] A w := IniOK.nil
 refine calls_of_HT2 [.cell 2 62] Try.func34 Try.ntmps34 (by decide) rfl rfl (Nat.le_of_ble_eq_true rfl) ?_
 intro R hR
 have f_v0 : Rep E_laws_RuleSet A w v0 p0 := hAe ▸ h0
 replace h0 : R 0 = v0 := hR 0 _ rfl
 clear hR hAe
 refine HT.seq ?_
 refine HT.textR [] (⟨_, true, [], some (.box w0.heap.size 57 E_laws_RuleSet p0), true, fun A => .any⟩ :: ⟨_, true, [], some (trR (geB w0.heap.size) (oPt 62 (oBx (oSl 30 (oBx (oSl 85 (oRd E_impl_Test)))))) ([] : List T_impl_Rule) []), true, fun A => .any⟩ :: []) (by kernel_rfl) (by kernel_rfl) (Wf.mk' (by kernel_rfl) (UAll.cons ust_any (UAll.cons ust_any (UAll.nil))) (by kernel_rfl) (by kernel_rfl)) hO hA ?_ ?_
 ·exact
   OblsR.cons (OblR.made _ rfl rfl rfl rfl fun A' R' w' ho hd => by have a0 : R' 0 = v0 := (ho.old 0 rfl).trans h0; have ra0 := (f_v0.stp ho.stp).eq a0; exact made_box ra0 (Nat.le_trans hF.size ho.ch.size)) <|
   OblsR.cons (OblR.madeS _ rfl rfl rfl rfl fun A' R' w' ho hd => by exact made_allocT Try.zeroValue62 (fun A w => own_nil) (fun k hk => Nat.le_trans (Nat.le_trans hF.size ho.ch.size) hk)) <|
   OblsR.nil
 intro done ρ σ A R w hdn hI
 obtain ⟨b1_0, e_b1_0⟩ := hI.boxv hdn 0 rfl rfl
 have h1 : R 1 = (.pointer (some ⟨b1_0, 0, none⟩)) := (hI.opvR hdn 0 0 rfl rfl rfl rfl rfl).symm.trans e_b1_0
 obtain ⟨u2, e_u2⟩ : ∃ u, ρ 1 = u := ⟨_, rfl⟩
 have h2 : R 2 = u2 := (hI.opvR hdn 1 1 rfl rfl rfl rfl rfl).symm.trans e_u2
 obtain ⟨S3, eS_u2⟩ : ∃ S, σ 1 = S := ⟨_, rfl⟩
 replace hAA := hI.low' hAA hA0 (hO.ge (trivial))
 replace hF : Fr w0 w := hF.tr hI.ch (hO.ge (trivial))
 replace hO : IniOK [ob (.pointer (some ⟨b1_0, 0, none⟩)) (.box w0.heap.size 57 E_laws_RuleSet p0), ⟨u2, S3, trR (geB w0.heap.size) (oPt 62 (oBx (oSl 30 (oBx (oSl 85 (oRd E_impl_Test)))))) ([] : List T_impl_Rule) []⟩] A w := hI.left hdn [(0, ob (.pointer (some ⟨b1_0, 0, none⟩)) (.box w0.heap.size 57 E_laws_RuleSet p0)), (1, ⟨u2, S3, trR (geB w0.heap.size) (oPt 62 (oBx (oSl 30 (oBx (oSl 85 (oRd E_impl_Test)))))) ([] : List T_impl_Rule) []⟩)] ⟨rfl, rfl, e_b1_0, rfl, rfl, ⟨rfl, rfl, e_u2, eS_u2, rfl, trivial⟩⟩
 replace hA := hI.avok
 clear hI
 refine HT.seq ?_
 refine HT.textR [ob (.pointer (some ⟨b1_0, 0, none⟩)) (.box w0.heap.size 57 E_laws_RuleSet p0), ⟨u2, S3, trR (geB w0.heap.size) (oPt 62 (oBx (oSl 30 (oBx (oSl 85 (oRd E_impl_Test)))))) ([] : List T_impl_Rule) []⟩] (⟨_, true, [], some (trR (geB w0.heap.size) (oPt 62 (oBx (oSl 30 (oBx (oSl 85 (oRd E_impl_Test)))))) ([] : List T_impl_Rule) []), true, fun A => .any⟩ :: []) (by kernel_rfl) (by kernel_rfl) (Wf.mk' (by kernel_rfl) (UAll.cons ust_any (UAll.nil)) (by kernel_rfl) (by kernel_rfl)) hO hA ?_ ?_
 ·exact
   OblsR.cons (OblR.madeS _ rfl rfl rfl rfl fun A' R' w' ho hd => by exact made_allocT Try.zeroValue62 (fun A w => own_nil) (fun k hk => Nat.le_trans (Nat.le_trans hF.size ho.ch.size) hk)) <|
   OblsR.nil
 intro done ρ σ A R w hdn hI
 replace h1 : R 1 = (.pointer (some ⟨b1_0, 0, none⟩)) := (hI.reg rfl).trans h1
 replace h2 : R 2 = u2 := (hI.reg rfl).trans h2
 have z4 := hI.inivR 0 rfl
 have z5 := hI.inivR 1 rfl
 obtain ⟨u6, e_u6⟩ : ∃ u, ρ 2 = u := ⟨_, rfl⟩
 have h3 : R 3 = u6 := (hI.opvR hdn 2 0 rfl rfl rfl rfl rfl).symm.trans e_u6
 have eS_u2 := hI.inisR 1 rfl
 obtain ⟨S7, eS_u6⟩ : ∃ S, σ 2 = S := ⟨_, rfl⟩
 replace hAA := hI.low' hAA hA0 (hO.ge (⟨rfl, ⟨fun _ h => h, trivial⟩⟩))
 replace hF : Fr w0 w := hF.tr hI.ch (hO.ge (⟨rfl, ⟨fun _ h => h, trivial⟩⟩))
 replace hO : IniOK [ob (.pointer (some ⟨b1_0, 0, none⟩)) (.box w0.heap.size 57 E_laws_RuleSet p0), ⟨u2, S3, trR (geB w0.heap.size) (oPt 62 (oBx (oSl 30 (oBx (oSl 85 (oRd E_impl_Test)))))) ([] : List T_impl_Rule) []⟩, ⟨u6, S7, trR (geB w0.heap.size) (oPt 62 (oBx (oSl 30 (oBx (oSl 85 (oRd E_impl_Test)))))) ([] : List T_impl_Rule) []⟩] A w := hI.left hdn [(0, ob (.pointer (some ⟨b1_0, 0, none⟩)) (.box w0.heap.size 57 E_laws_RuleSet p0)), (1, ⟨u2, S3, trR (geB w0.heap.size) (oPt 62 (oBx (oSl 30 (oBx (oSl 85 (oRd E_impl_Test)))))) ([] : List T_impl_Rule) []⟩), (2, ⟨u6, S7, trR (geB w0.heap.size) (oPt 62 (oBx (oSl 30 (oBx (oSl 85 (oRd E_impl_Test)))))) ([] : List T_impl_Rule) []⟩)] ⟨rfl, rfl, z4, rfl, rfl, ⟨rfl, rfl, z5, eS_u2, rfl, ⟨rfl, rfl, e_u6, eS_u6, rfl, trivial⟩⟩⟩
 replace hA := hI.avok
 clear hI
 refine HT.seq ?_
 obtain ⟨x8, q9, hr⟩ := cl_some hr
 refine HT.textR [ob (.pointer (some ⟨b1_0, 0, none⟩)) (.box w0.heap.size 57 E_laws_RuleSet p0), ⟨u2, S3, trR (geB w0.heap.size) (oPt 62 (oBx (oSl 30 (oBx (oSl 85 (oRd E_impl_Test)))))) ([] : List T_impl_Rule) []⟩, ⟨u6, S7, trR (geB w0.heap.size) (oPt 62 (oBx (oSl 30 (oBx (oSl 85 (oRd E_impl_Test)))))) ([] : List T_impl_Rule) []⟩] (⟨_, true, [], none, true, fun A => .raw (.pointer (some ⟨b1_0, 0, none⟩))⟩ :: ⟨_, true, [], none, true, fun A => .rep (eSl E_laws_Rule) A p0⟩ :: ⟨_, true, [], some (trR (geB w0.heap.size) (oSl 30 (oBx (oSl 85 (oRd E_impl_Test)))) x8 []), true, fun A => .any⟩ :: ⟨_, true, [], none, true, fun A => .raw u6⟩ :: ⟨_, true, [2, 5], some (trR (geB w0.heap.size) (oPt 62 (oBx (oSl 30 (oBx (oSl 85 (oRd E_impl_Test)))))) x8 []), false, fun A => .any⟩ :: []) (by kernel_rfl) (by kernel_rfl) (Wf.mk' (by kernel_rfl) (UAll.cons ust_raw (UAll.cons ust_rep (UAll.cons ust_any (UAll.cons ust_raw (UAll.cons ust_any (UAll.nil)))))) (by kernel_rfl) (by kernel_rfl)) hO hA ?_ ?_
 ·exact
   OblsR.p (fun A' R' w' ho hd => of_fieldAddr_raw ((ho.old 1 rfl).trans h1) ff_57_0 Try.sizeOf55 (by decide) rfl) <|
   OblsR.p (fun A' R' w' ho hd => by have a0 : R' 4 = (.pointer (some ⟨b1_0, 0, none⟩)) := hd.g 0 rfl; exact (of_load_box (ho.rd 0 _ rfl rfl) a0 fl_laws_RuleSet_0 rfl Try.isAgg55 Try.sizeOf55)) <|
   OblsR.cons (OblR.madeS _ rfl rfl rfl rfl fun A' R' w' ho hd => by have a0 : Rep (eSl E_laws_Rule) A' w' (R' 5) p0 := hd.g 0 rfl; exact made_callT Try.call85 (M_laws_toRuleS_ok (q9 rfl) ho.av a0) (fun k hk => Nat.le_trans (Nat.le_trans hF.size ho.ch.size) hk)) <|
   OblsR.p (fun A' R' w' ho hd => of_fieldAddr_tr ((tr_root (hO.own 2 _ rfl).2).ptr).ad ((ho.old 3 rfl).trans h3) ff_62_0 Try.sizeOf60 (by decide) (padd_zero ((tr_root (hO.own 2 _ rfl).2).ptr).ad)) <|
   OblsR.cons (OblR.tookM 2 [5] _ rfl rfl rfl rfl fun A' R' w' ho hd ρ σ hok hav hin hop hds hdd => by have a0 : R' 7 = u6 := hd.g 0 rfl; have k1 := hok 2 (.head _) _ rfl; have e0 := (hin 2 (.head _) _ rfl).1; rw [e0] at k1 ⊢; exact took_put2 rfl ((tr_root k1.2.2).ptr).bx (hok 5 (.tail _ (.head _)) _ rfl).2.2.1 (hop 5 (.tail _ (.head _)) _ _ rfl rfl rfl rfl).symm a0 hav hdd k1.2.1 (hok 5 (.tail _ (.head _)) _ rfl).2.1 Try.sizeOf60 (fun _ _ _ h => h)) <|
   OblsR.nil
 intro done ρ σ A R w hdn hI
 replace h2 : R 2 = u2 := (hI.reg rfl).trans h2
 replace h3 : R 3 = u6 := (hI.reg rfl).trans h3
 have z10 := hI.inivR 0 rfl
 have z11 := hI.inivR 1 rfl
 have z12 := hI.inivR 2 rfl
 have z13 := (hI.opnR hdn 7 4 rfl rfl rfl rfl rfl).trans z12
 have eS_u2 := hI.inisR 1 rfl
 obtain ⟨S14, eS_u6⟩ : ∃ S, σ 7 = S := ⟨_, rfl⟩
 replace hAA := hI.low' hAA hA0 (hO.ge (⟨rfl, ⟨fun _ h => h, ⟨fun _ h => h, trivial⟩⟩⟩))
 replace hF : Fr w0 w := hF.tr hI.ch (hO.ge (⟨rfl, ⟨fun _ h => h, ⟨fun _ h => h, trivial⟩⟩⟩))
 replace hO : IniOK [⟨u2, S3, trR (geB w0.heap.size) (oPt 62 (oBx (oSl 30 (oBx (oSl 85 (oRd E_impl_Test)))))) ([] : List T_impl_Rule) []⟩, ⟨u6, S14, trR (geB w0.heap.size) (oPt 62 (oBx (oSl 30 (oBx (oSl 85 (oRd E_impl_Test)))))) x8 []⟩] A w := hI.left hdn [(1, ⟨u2, S3, trR (geB w0.heap.size) (oPt 62 (oBx (oSl 30 (oBx (oSl 85 (oRd E_impl_Test)))))) ([] : List T_impl_Rule) []⟩), (7, ⟨u6, S14, trR (geB w0.heap.size) (oPt 62 (oBx (oSl 30 (oBx (oSl 85 (oRd E_impl_Test)))))) x8 []⟩)] ⟨rfl, rfl, z11, eS_u2, rfl, ⟨rfl, rfl, z13, eS_u6, rfl, trivial⟩⟩
 replace hA := hI.avok
 clear hI
 refine HT.seq ?_
 refine HT.textR [⟨u2, S3, trR (geB w0.heap.size) (oPt 62 (oBx (oSl 30 (oBx (oSl 85 (oRd E_impl_Test)))))) ([] : List T_impl_Rule) []⟩, ⟨u6, S14, trR (geB w0.heap.size) (oPt 62 (oBx (oSl 30 (oBx (oSl 85 (oRd E_impl_Test)))))) x8 []⟩] (⟨_, true, [1], some (trR (geB w0.heap.size) (oBx (oSl 30 (oBx (oSl 85 (oRd E_impl_Test))))) x8 []), true, fun A => .any⟩ :: ⟨_, true, [0, 2], some (trR (geB w0.heap.size) (oPt 62 (oBx (oSl 30 (oBx (oSl 85 (oRd E_impl_Test)))))) x8 []), false, fun A => .any⟩ :: []) (by kernel_rfl) (by kernel_rfl) (Wf.mk' (by kernel_rfl) (UAll.cons ust_any (UAll.cons ust_any (UAll.nil))) (by kernel_rfl) (by kernel_rfl)) hO hA ?_ ?_
 ·exact
   OblsR.cons (OblR.tookS 1 _ _ rfl rfl rfl rfl rfl fun A' R' w' ho hd u S hok hown hav hin hop hds => by have a0 : R' 3 = u6 := (ho.old 3 rfl).trans h3; exact took_loadT hown.2 (a0.trans (hin _ rfl).1.symm) hav hown.1 Try.isAgg62 Try.sizeOf62) <|
   OblsR.cons (OblR.tookM 0 [2] _ rfl rfl rfl rfl fun A' R' w' ho hd ρ σ hok hav hin hop hds hdd => by have a0 : R' 2 = u2 := (ho.old 2 rfl).trans h2; have k1 := hok 0 (.head _) _ rfl; have e0 := (hin 0 (.head _) _ rfl).1; rw [e0] at k1 ⊢; exact took_put2 rfl (tr_root k1.2.2).ptr (hok 2 (.tail _ (.head _)) _ rfl).2.2.1 (hop 2 (.tail _ (.head _)) _ _ rfl rfl rfl rfl).symm a0 hav hdd k1.2.1 (hok 2 (.tail _ (.head _)) _ rfl).2.1 Try.sizeOf62 (fun _ _ _ h => h)) <|
   OblsR.nil
 intro done ρ σ A R w hdn hI
 replace h2 : R 2 = u2 := (hI.reg rfl).trans h2
 have z15 := hI.inivR 0 rfl
 have z16 := (hI.opnR hdn 3 1 rfl rfl rfl rfl rfl).trans z15
 obtain ⟨S17, eS_u2⟩ : ∃ S, σ 3 = S := ⟨_, rfl⟩
 replace hAA := hI.low' hAA hA0 (hO.ge (⟨fun _ h => h, ⟨fun _ h => h, trivial⟩⟩))
 replace hF : Fr w0 w := hF.tr hI.ch (hO.ge (⟨fun _ h => h, ⟨fun _ h => h, trivial⟩⟩))
 replace hO : IniOK [⟨u2, S17, trR (geB w0.heap.size) (oPt 62 (oBx (oSl 30 (oBx (oSl 85 (oRd E_impl_Test)))))) x8 []⟩] A w := hI.left hdn [(3, ⟨u2, S17, trR (geB w0.heap.size) (oPt 62 (oBx (oSl 30 (oBx (oSl 85 (oRd E_impl_Test)))))) x8 []⟩)] ⟨rfl, rfl, z16, eS_u2, rfl, trivial⟩
 replace hA := hI.avok
 clear hI
 refine HT.ret ?_
 obtain rfl := Option.some.inj hr
 obtain ⟨v_, e_, p_⟩ := tree_post_cell (T := 62) (f := fun _ => .any) rfl (hO.own 0 _ rfl) (hO.ok 0 _ rfl).2 hAA hF h2 Try.isAgg62 Try.sizeOf62 (fun _ _ => trivial)
 exact ⟨.inr rfl, [v_], ⟨e_, trivial⟩, p_⟩
theorem M_laws_toRuleSet_okR {fu : Nat} {A0 : Av} {p0 : T_laws_RuleSet} {r : T_impl_RuleSet} (hr : M_laws_toRuleSet fu p0 = some r) {w : World} {v0 : Value} (hA : AvOK A0 w) (h0 : Rep E_laws_RuleSet A0 w v0 p0) :
  Calls Try.prog 34 #[v0] w fun e w' => ∃ v, e = .returned v ∧ (Rep E_impl_RuleSet A0 w' v r ∧ Fr w w') := by
 refine Calls.mono (M_laws_toRuleSet_ok hr hA h0) ?_
 rintro e w' ⟨v, he, h⟩
 exact ⟨v, he, madeS_rep h hA⟩
def M_spec_l1In (fu : Nat) (p0 : Int) (p1 : Int) (p2 : Int) : Option Bool :=
 bd ((decide (p1 ≤ p0)) && (decide (p0 ≤ p2))) fun x1 =>
 some x1
theorem M_spec_l1In_ok {fu : Nat} {A : Av} {p0 : Int} {p1 : Int} {p2 : Int} {r : Bool} (hr : M_spec_l1In fu p0 p1 p2 = some r) {w : World} {v0 : Value} {v1 : Value} {v2 : Value} (hA : AvOK A w) (h0 : v0 = .int .i64 p0) (h1 : v1 = .int .i64 p1) (h2 : v2 = .int .i64 p2) :
  Calls Try.prog 70 #[v0, v1, v2] w fun e w' => ∃ v, e = .returned v ∧ (v = .bool r ∧ Fr w w') := by
 unfold M_spec_l1In at hr
 obtain ⟨w0, hw0⟩ : ∃ w0, w0 = w := ⟨_, rfl⟩
 have hF : Fr w0 w := hw0 ▸ Fr.refl _
 rw [show Fr w = Fr w0 from hw0 ▸ rfl]
 clear hw0
 refine calls_of_HT2 [.tmp 6] Try.func70 Try.ntmps70 (by decide) rfl rfl (Nat.le_of_ble_eq_true rfl) ?_
 intro R hR
 replace h0 : R 0 = .int .i64 p0 := (hR 0 _ rfl).trans h0
 replace h1 : R 1 = .int .i64 p1 := (hR 1 _ rfl).trans h1
 replace h2 : R 2 = .int .i64 p2 := (hR 2 _ rfl).trans h2
 clear hR
 refine HT.seq ?_
 refine HT.text (l := ⟨_, true, .raw (.bool false)⟩ :: []) (tl := []) (by kernel_rfl) (by kernel_rfl) (by kernel_rfl) ?_ ?_
 ·exact
   Obls.p (fun R' w' hw hs hd => of_assign rfl) <|
   Obls.nil
 intro R w hw hs hF'
 replace h0 := (hs 0 rfl).trans h0
 replace h1 := (hs 1 rfl).trans h1
 replace h2 := (hs 2 rfl).trans h2
 replace hA := hA.fr hw.size
 replace hF := hF.trans hw
 clear hs hF' hw
 refine seqR_nil ?_
 refine HT.seq ?_
 obtain ⟨x1, q2, hr⟩ := bd_some hr
 refine HT.text (l := ⟨_, true, .raw (.int .i64 p0)⟩ :: ⟨_, true, .raw (.int .i64 p1)⟩ :: ⟨_, true, .raw (.bool (decide (p1 ≤ p0)))⟩ :: ⟨_, true, .raw (.bool (decide (p1 ≤ p0)))⟩ :: ⟨_, (true && ((decide (p1 ≤ p0)) == true)), .raw (.int .i64 p0)⟩ :: ⟨_, (true && ((decide (p1 ≤ p0)) == true)), .raw (.int .i64 p2)⟩ :: ⟨_, (true && ((decide (p1 ≤ p0)) == true)), .raw (.bool (decide (p0 ≤ p2)))⟩ :: ⟨_, true, .raw (.bool x1)⟩ :: ⟨_, true, .raw (.bool x1)⟩ :: []) (tl := []) (by kernel_rfl) (by kernel_rfl) (by kernel_rfl) ?_ ?_
 ·exact
   Obls.p (fun R' w' hw hs hd => of_move ((hs 0 rfl).trans h0)) <|
   Obls.p (fun R' w' hw hs hd => of_move ((hs 1 rfl).trans h1)) <|
   Obls.p (fun R' w' hw hs hd => by have a0 : R' 7 = .int .i64 p0 := hd.g 0 rfl; have a1 : R' 8 = .int .i64 p1 := hd.g 1 rfl; exact of_geq a0 a1) <|
   Obls.p (fun R' w' hw hs hd => by have a0 : R' 9 = .bool (decide (p1 ≤ p0)) := hd.g 0 rfl; exact of_move a0) <|
   Obls.cons (Obl.grd 3 true _ _ _ rfl rfl rfl rfl rfl (by kernel_rfl) fun hg R' w' hw hs hd => by have a0 : R' 0 = .int .i64 p0 := (hs 0 rfl).trans h0; exact of_move a0) <|
   Obls.cons (Obl.grd 3 true _ _ _ rfl rfl rfl rfl rfl (by kernel_rfl) fun hg R' w' hw hs hd => by have a0 : R' 2 = .int .i64 p2 := (hs 2 rfl).trans h2; exact of_move a0) <|
   Obls.cons (Obl.grd 3 true _ _ _ rfl rfl rfl rfl rfl (by kernel_rfl) fun hg R' w' hw hs hd => by have a0 : R' 11 = .int .i64 p0 := hd 0 _ _ _ rfl rfl rfl rfl hg; have a1 : R' 12 = .int .i64 p2 := hd 1 _ _ _ rfl rfl rfl rfl hg; exact of_leq a0 a1) <|
   Obls.p (fun R' w' hw hs hd => by have a0 : R' 10 = .bool (decide (p1 ≤ p0)) := hd.g 0 rfl; exact of_pick (decide (p1 ≤ p0)) a0 (fun hc => by have a1 : R' 13 = .bool (decide (p0 ≤ p2)) := hd 1 _ _ _ rfl rfl rfl rfl (g_and rfl (beq_of hc)); show _ = Value.bool x1; rw [q2, hc]; exact a1) (fun hc => by show _ = Value.bool x1; rw [q2, hc]; exact rfl)) <|
   Obls.p (fun R' w' hw hs hd => by have a0 : R' 14 = .bool x1 := hd.g 0 rfl; exact of_assign a0) <|
   Obls.nil
 intro R w hw hs hF'
 have h6 : R 6 = .bool x1 := hF' 8 _ _ rfl rfl rfl
 replace hA := hA.fr hw.size
 replace hF := hF.trans hw
 clear hs hF' hw
 refine seqR_nil ?_
 refine HT.ret ?_
 obtain rfl := Option.some.inj hr
 exact ⟨.inr rfl, [R 6], ⟨rfl, trivial⟩, h6, hF⟩
def M_spec_IsValidRules_L1 (fu : Nat) (p0 : T_impl_RuleSet) (y5 : Int) : Nat → Int → Option (Ex Bool Unit)
 | 0, _ => none
 | k + 1, y12 =>
  bif (decide (y12 < ((gtD p0 y5).length : Int))) then (
   ck (inR y12 (gtD p0 y5).length) <|
   cl true (M_spec_l1In fu ((gtD (gtD p0 y5) y12).1) (0 : Int) (5 : Int)) fun x15 =>
   ck (!(true && ((!x15) == false)) || inR y12 (gtD p0 y5).length) <|
   cl (true && ((!x15) == false)) (M_spec_l1In fu ((gtD (gtD p0 y5) y12).2.1) (1 : Int) (1000 : Int)) fun x18 =>
   bd ((!x15) || (!x18)) fun x20 =>
   ck (!((true && (x20 == false)) && ((decide ((0 : Int) < y12)) == true)) || i64B (y12 - (1 : Int))) <|
   ck (!((true && (x20 == false)) && ((decide ((0 : Int) < y12)) == true)) || inR (y12 - (1 : Int)) (gtD p0 y5).length) <|
   ck (!((true && (x20 == false)) && ((decide ((0 : Int) < y12)) == true)) || inR y12 (gtD p0 y5).length) <|
   bd ((decide ((0 : Int) < y12)) && (decide (((gtD (gtD p0 y5) y12).1) ≤ ((gtD (gtD p0 y5) (y12 - (1 : Int))).1)))) fun x25 =>
   bd (x20 || x25) fun x27 =>
   bif x27 then (
    some (Ex.ret false)
   ) else (
    ck (i64B (y12 + (1 : Int))) <|
    M_spec_IsValidRules_L1 fu p0 y5 k (y12 + (1 : Int))
   )
  ) else (
   some (Ex.go ())
  )
def M_spec_IsValidRules_L0 (fu : Nat) (p0 : T_impl_RuleSet) : Nat → Int → Option (Ex Bool Unit)
 | 0, _ => none
 | k + 1, y5 =>
  bif (decide (y5 < (p0.length : Int))) then (
   ck (inR y5 p0.length) <|
   cl true (M_spec_IsValidRules_L1 fu p0 y5 fu (0 : Int)) fun rl9 =>
   exM rl9 (fun r => some (Ex.ret r)) fun s11 =>
   cl true (M_spec_l1In fu ((gtD p0 y5).length : Int) (1 : Int) (3 : Int)) fun x31 =>
   bif (!x31) then (
    some (Ex.ret false)
   ) else (
    ck (i64B (y5 + (1 : Int))) <|
    M_spec_IsValidRules_L0 fu p0 k (y5 + (1 : Int))
   )
  ) else (
   some (Ex.go ())
  )
def M_spec_IsValidRules (fu : Nat) (p0 : T_impl_RuleSet) : Option Bool :=
 cl true (M_spec_IsValidRules_L0 fu p0 fu (0 : Int)) fun rl2 =>
 exM rl2 (fun r => some r) fun s4 =>
 cl true (M_spec_l1In fu (p0.length : Int) (1 : Int) (3 : Int)) fun x35 =>
 some x35
theorem M_spec_IsValidRules_ok {fu : Nat} {A0 : Av} {p0 : T_impl_RuleSet} {r : Bool} (hr : M_spec_IsValidRules fu p0 = some r) {w : World} {v0 : Value} (hA : AvOK A0 w) (h0 : Rep E_impl_RuleSet A0 w v0 p0) :
  Calls Try.prog 33 #[v0] w fun e w' => ∃ v, e = .returned v ∧ (v = .bool r ∧ Fr w w') := by
 unfold M_spec_IsValidRules at hr
 obtain ⟨w0, hw0⟩ : ∃ w0, w0 = w := ⟨_, rfl⟩
 have hF : Fr w0 w := hw0 ▸ Fr.refl _
 have hA0 : ∀ b o, A0 b o → b < w0.heap.size := fun b o h => hw0 ▸ hA b o h
 have hA00 : AvOK A0 w0 := hA0
 rw [show Fr w = Fr w0 from hw0 ▸ rfl]
 clear hw0
 obtain ⟨A, hAe⟩ : ∃ A, A = A0 := ⟨_, rfl⟩
 have hAA : ∀ b o, A0 b o → A b o := fun b o h => hAe ▸ h
 replace hA : AvOK A w := hAe ▸ hA
 have hO : IniOK [] A w := IniOK.nil
 refine calls_of_HT2 [.tmp 2] Try.func33 Try.ntmps33 (by decide) rfl rfl (Nat.le_of_ble_eq_true rfl) ?_
 intro R hR
 have f_v0 : Rep E_impl_RuleSet A w v0 p0 := hAe ▸ h0
 replace h0 : R 0 = v0 := hR 0 _ rfl
 clear hR hAe
 refine HT.seq ?_
 refine HT.textR [] (⟨_, true, [], some (.box w0.heap.size 62 E_impl_RuleSet p0), true, fun A => .any⟩ :: ⟨_, true, [], none, true, fun A => .raw (.bool false)⟩ :: []) (by kernel_rfl) (by kernel_rfl) (Wf.mk' (by kernel_rfl) (UAll.cons ust_any (UAll.cons ust_raw (UAll.nil))) (by kernel_rfl) (by kernel_rfl)) hO hA ?_ ?_
 ·exact
   OblsR.cons (OblR.made _ rfl rfl rfl rfl fun A' R' w' ho hd => by have a0 : R' 0 = v0 := (ho.old 0 rfl).trans h0; have ra0 := (f_v0.stp ho.stp).eq a0; exact made_box ra0 (Nat.le_trans hF.size ho.ch.size)) <|
   OblsR.p (fun A' R' w' ho hd => of_assign rfl) <|
   OblsR.nil
 intro done ρ σ A R w hdn hI
 obtain ⟨b1_0, e_b1_0⟩ := hI.boxv hdn 0 rfl rfl
 have h1 : R 1 = (.pointer (some ⟨b1_0, 0, none⟩)) := (hI.opvR hdn 0 0 rfl rfl rfl rfl rfl).symm.trans e_b1_0
 replace hAA := hI.low' hAA hA0 (hO.ge (trivial))
 replace hF : Fr w0 w := hF.tr hI.ch (hO.ge (trivial))
 replace hO : IniOK [ob (.pointer (some ⟨b1_0, 0, none⟩)) (.box w0.heap.size 62 E_impl_RuleSet p0)] A w := hI.left hdn [(0, ob (.pointer (some ⟨b1_0, 0, none⟩)) (.box w0.heap.size 62 E_impl_RuleSet p0))] ⟨rfl, rfl, e_b1_0, rfl, rfl, trivial⟩
 replace hA := hI.avok
 clear hI
 refine HT.seq ?_
 refine HT.seq ?_
 refine HT.text (l := ⟨_, true, .raw (.int .i64 (0 : Int))⟩ :: []) (tl := []) (by kernel_rfl) (by kernel_rfl) (by kernel_rfl) ?_ ?_
 ·exact
   Obls.p (fun R' w' hw hs hd => of_assign rfl) <|
   Obls.nil
 intro R w hw hs hF'
 replace h1 := (hs 1 rfl).trans h1
 have h3 : R 3 = .int .i64 (0 : Int) := hF' 0 _ _ rfl rfl rfl
 replace hO := hO.fr hw
 replace hA := hA.fr hw.size
 replace hF := hF.trans hw
 clear hs hF' hw
 refine seqR_nil ?_
 obtain ⟨rl2, q3, hr⟩ := cl_some hr
 replace q3 := q3 rfl
 refine HT.cut0 (fun R w => ∃ A : Av, ∃ (s4 : Unit), rl2 = Ex.go s4 ∧ AvOK A w ∧ Fr w0 w ∧ (∀ b o, A0 b o → A b o) ∧ IniOK [ob (.pointer (some ⟨b1_0, 0, none⟩)) (.box w0.heap.size 62 E_impl_RuleSet p0)] A w ∧ R 1 = (.pointer (some ⟨b1_0, 0, none⟩))) ?_ ?_
 ·refine HT.block ?_
  refine HT.loop (fun k R w => ∃ A : Av, ∃ (y5 : Int), M_spec_IsValidRules_L0 fu p0 k y5 = some rl2 ∧ AvOK A w ∧ Fr w0 w ∧ (∀ b o, A0 b o → A b o) ∧ IniOK [ob (.pointer (some ⟨b1_0, 0, none⟩)) (.box w0.heap.size 62 E_impl_RuleSet p0)] A w ∧ R 1 = (.pointer (some ⟨b1_0, 0, none⟩)) ∧ R 3 = .int .i64 y5) fu ⟨_, _, q3, hA, hF, hAA, hO, h1, h3⟩ ?_
  have hr0 := hr; clear hr q3
  rintro k R w ⟨A, y5, hr, hA, hF, hAA, hO, h1, h3⟩
  rcases k with _ | k
  ·cases (show none = some _ from hr)
  rw [M_spec_IsValidRules_L0] at hr
  refine HT.seq ?_
  refine HT.seq ?_
  refine HT.text (l := ⟨_, true, .raw (.int .i64 y5)⟩ :: ⟨_, true, .raw (.pointer (some ⟨b1_0, 0, none⟩))⟩ :: ⟨_, true, .rep (eSl E_impl_Rule) A p0⟩ :: ⟨_, true, .raw (.int .i64 (p0.length : Int))⟩ :: ⟨_, true, .raw (.bool (decide (y5 < (p0.length : Int))))⟩ :: []) (tl := []) (by kernel_rfl) (by kernel_rfl) (by kernel_rfl) ?_ ?_
  ·exact
    Obls.p (fun R' w' hw hs hd => of_move ((hs 3 rfl).trans h3)) <|
    Obls.p (fun R' w' hw hs hd => of_fieldAddr_raw ((hs 1 rfl).trans h1) ff_62_0 Try.sizeOf60 (by decide) rfl) <|
    Obls.p (fun R' w' hw hs hd => by have a0 : R' 7 = (.pointer (some ⟨b1_0, 0, none⟩)) := hd.g 0 rfl; exact (of_load_box ((hO.fr hw).ok 0 _ rfl).1 a0 fl_impl_RuleSet_0 rfl Try.isAgg60 Try.sizeOf60)) <|
    Obls.p (fun R' w' hw hs hd => by have a0 : Rep (eSl E_impl_Rule) A w' (R' 8) p0 := hd.g 0 rfl; exact of_len_sl (aT := #[]) a0 Try.underlying60) <|
    Obls.p (fun R' w' hw hs hd => by have a0 : R' 6 = .int .i64 y5 := hd.g 0 rfl; have a1 : R' 9 = .int .i64 (p0.length : Int) := hd.g 1 rfl; exact of_lss a0 a1) <|
    Obls.nil
  intro R w hw hs hF'
  replace h1 := (hs 1 rfl).trans h1
  replace h3 := (hs 3 rfl).trans h3
  have h10 : R 10 = .bool (decide (y5 < (p0.length : Int))) := hF' 4 _ _ rfl rfl rfl
  replace hO := hO.fr hw
  replace hA := hA.fr hw.size
  replace hF := hF.trans hw
  clear hs hF' hw
  refine seqR_nil ?_
  refine HT.cond (decide (y5 < (p0.length : Int))) h10 (fun c6 => ?_) (fun c6 => ?_)
  ·have hr := cnd_t c6 hr
   refine HT.skip ?_
   refine HT.seq ?_
   refine HT.block ?_
   refine HT.seq ?_
   obtain ⟨e7, hr⟩ := ck_some hr
   refine HT.text (l := ⟨_, true, .raw (.pointer (some ⟨b1_0, 0, none⟩))⟩ :: ⟨_, true, .rep (eSl E_impl_Rule) A p0⟩ :: ⟨_, true, .raw (.int .i64 y5)⟩ :: ⟨_, true, .qtr E_impl_Rule A (gtD p0 y5)⟩ :: ⟨_, true, .qtr (eSl E_impl_Test) A (gtD p0 y5)⟩ :: ⟨_, true, .rep (eSl E_impl_Test) A (gtD p0 y5)⟩ :: ⟨_, true, .rep (eSl E_impl_Test) A (gtD p0 y5)⟩ :: []) (tl := []) (by kernel_rfl) (by kernel_rfl) (by kernel_rfl) ?_ ?_
   ·exact
     Obls.p (fun R' w' hw hs hd => of_fieldAddr_raw ((hs 1 rfl).trans h1) ff_62_0 Try.sizeOf60 (by decide) rfl) <|
     Obls.p (fun R' w' hw hs hd => by have a0 : R' 13 = (.pointer (some ⟨b1_0, 0, none⟩)) := hd.g 0 rfl; exact (of_load_box ((hO.fr hw).ok 0 _ rfl).1 a0 fl_impl_RuleSet_0 rfl Try.isAgg60 Try.sizeOf60)) <|
     Obls.p (fun R' w' hw hs hd => of_move ((hs 3 rfl).trans h3)) <|
     Obls.p (fun R' w' hw hs hd => by have a0 : Rep (eSl E_impl_Rule) A w' (R' 14) p0 := hd.g 0 rfl; have a1 : R' 15 = .int .i64 y5 := hd.g 1 rfl; exact of_indexAddr a0 a1 Try.underlying60 Try.sizeOf30 e7) <|
     Obls.p (fun R' w' hw hs hd => by have a0 : QRep E_impl_Rule A w' (R' 16) (gtD p0 y5) := hd.g 0 rfl; exact of_fieldAddr_q a0 ff_30_0 Try.sizeOf28 (by decide) fl_impl_Rule_0 rfl) <|
     Obls.p (fun R' w' hw hs hd => by have a0 : QRep (eSl E_impl_Test) A w' (R' 17) (gtD p0 y5) := hd.g 0 rfl; exact (of_load a0.ptr Try.isAgg28 Try.sizeOf28)) <|
     Obls.p (fun R' w' hw hs hd => by have a0 : Rep (eSl E_impl_Test) A w' (R' 18) (gtD p0 y5) := hd.g 0 rfl; exact of_assign a0) <|
     Obls.nil
   intro R w hw hs hF'
   replace h1 := (hs 1 rfl).trans h1
   replace h3 := (hs 3 rfl).trans h3
   obtain ⟨u8, h4, f_u8⟩ : ∃ u, R 4 = u ∧ Rep (eSl E_impl_Test) A w u (gtD p0 y5) := ⟨_, rfl, hF' 6 _ _ rfl rfl rfl⟩
   replace hO := hO.fr hw
   replace hA := hA.fr hw.size
   replace hF := hF.trans hw
   clear hs hF' hw
   refine seqR_nil ?_
   refine HT.seq ?_
   refine HT.seq ?_
   refine HT.text (l := ⟨_, true, .raw (.int .i64 (0 : Int))⟩ :: []) (tl := []) (by kernel_rfl) (by kernel_rfl) (by kernel_rfl) ?_ ?_
   ·exact
     Obls.p (fun R' w' hw hs hd => of_assign rfl) <|
     Obls.nil
   intro R w hw hs hF'
   replace h1 := (hs 1 rfl).trans h1
   replace h3 := (hs 3 rfl).trans h3
   replace h4 := (hs 4 rfl).trans h4
   have h5 : R 5 = .int .i64 (0 : Int) := hF' 0 _ _ rfl rfl rfl
   replace f_u8 := f_u8.fr hw
   replace hO := hO.fr hw
   replace hA := hA.fr hw.size
   replace hF := hF.trans hw
   clear hs hF' hw
   refine seqR_nil ?_
   obtain ⟨rl9, q10, hr⟩ := cl_some hr
   replace q10 := q10 rfl
   refine HT.cut0 (fun R w => ∃ A : Av, ∃ (s11 : Unit), rl9 = Ex.go s11 ∧ AvOK A w ∧ Fr w0 w ∧ (∀ b o, A0 b o → A b o) ∧ IniOK [ob (.pointer (some ⟨b1_0, 0, none⟩)) (.box w0.heap.size 62 E_impl_RuleSet p0)] A w ∧ R 1 = (.pointer (some ⟨b1_0, 0, none⟩)) ∧ R 3 = .int .i64 y5 ∧ R 4 = u8 ∧ Rep (eSl E_impl_Test) A w u8 (gtD p0 y5)) ?_ ?_
   ·refine HT.block ?_
    refine HT.loop (fun k R w => ∃ A : Av, ∃ (y12 : Int), M_spec_IsValidRules_L1 fu p0 y5 k y12 = some rl9 ∧ AvOK A w ∧ Fr w0 w ∧ (∀ b o, A0 b o → A b o) ∧ IniOK [ob (.pointer (some ⟨b1_0, 0, none⟩)) (.box w0.heap.size 62 E_impl_RuleSet p0)] A w ∧ R 1 = (.pointer (some ⟨b1_0, 0, none⟩)) ∧ R 3 = .int .i64 y5 ∧ R 4 = u8 ∧ R 5 = .int .i64 y12 ∧ Rep (eSl E_impl_Test) A w u8 (gtD p0 y5)) fu ⟨_, _, q10, hA, hF, hAA, hO, h1, h3, h4, h5, f_u8⟩ ?_
    have hr1 := hr; clear hr q10
    rintro k R w ⟨A, y12, hr, hA, hF, hAA, hO, h1, h3, h4, h5, f_u8⟩
    rcases k with _ | k
    ·cases (show none = some _ from hr)
    rw [M_spec_IsValidRules_L1] at hr
    refine HT.seq ?_
    refine HT.seq ?_
    refine HT.text (l := ⟨_, true, .raw (.int .i64 y12)⟩ :: ⟨_, true, .raw u8⟩ :: ⟨_, true, .raw (.int .i64 ((gtD p0 y5).length : Int))⟩ :: ⟨_, true, .raw (.bool (decide (y12 < ((gtD p0 y5).length : Int))))⟩ :: []) (tl := []) (by kernel_rfl) (by kernel_rfl) (by kernel_rfl) ?_ ?_
    ·exact
      Obls.p (fun R' w' hw hs hd => of_move ((hs 5 rfl).trans h5)) <|
      Obls.p (fun R' w' hw hs hd => of_move ((hs 4 rfl).trans h4)) <|
      Obls.p (fun R' w' hw hs hd => by have a0 : R' 20 = u8 := hd.g 0 rfl; have ra0 := (f_u8.fr hw).eq a0; exact of_len_sl (aT := #[]) ra0 Try.underlying28) <|
      Obls.p (fun R' w' hw hs hd => by have a0 : R' 19 = .int .i64 y12 := hd.g 0 rfl; have a1 : R' 21 = .int .i64 ((gtD p0 y5).length : Int) := hd.g 1 rfl; exact of_lss a0 a1) <|
      Obls.nil
    intro R w hw hs hF'
    replace h1 := (hs 1 rfl).trans h1
    replace h3 := (hs 3 rfl).trans h3
    replace h4 := (hs 4 rfl).trans h4
    replace h5 := (hs 5 rfl).trans h5
    have h22 : R 22 = .bool (decide (y12 < ((gtD p0 y5).length : Int))) := hF' 3 _ _ rfl rfl rfl
    replace f_u8 := f_u8.fr hw
    replace hO := hO.fr hw
    replace hA := hA.fr hw.size
    replace hF := hF.trans hw
    clear hs hF' hw
    refine seqR_nil ?_
    refine HT.cond (decide (y12 < ((gtD p0 y5).length : Int))) h22 (fun c13 => ?_) (fun c13 => ?_)
    ·have hr := cnd_t c13 hr
     refine HT.skip ?_
     refine HT.seq ?_
     refine HT.block ?_
     refine HT.seq ?_
     obtain ⟨e14, hr⟩ := ck_some hr
     obtain ⟨x15, q16, hr⟩ := cl_some hr
     obtain ⟨e17, hr⟩ := ck_some hr
     obtain ⟨x18, q19, hr⟩ := cl_some hr
     obtain ⟨x20, q21, hr⟩ := bd_some hr
     obtain ⟨e22, hr⟩ := ck_some hr
     obtain ⟨e23, hr⟩ := ck_some hr
     obtain ⟨e24, hr⟩ := ck_some hr
     obtain ⟨x25, q26, hr⟩ := bd_some hr
     obtain ⟨x27, q28, hr⟩ := bd_some hr
     refine HT.draw (by kernel_rfl) (l := ⟨_, true, .raw u8⟩ :: ⟨_, true, .raw (.int .i64 y12)⟩ :: ⟨_, true, .qtr E_impl_Test A (gtD (gtD p0 y5) y12)⟩ :: ⟨_, true, .qtr (eInt .i64) A ((gtD (gtD p0 y5) y12).1)⟩ :: ⟨_, true, .raw (.int .i64 ((gtD (gtD p0 y5) y12).1))⟩ :: ⟨_, true, .raw (.bool x15)⟩ :: ⟨_, true, .raw (.bool (!x15))⟩ :: ⟨_, true, .raw (.bool (!x15))⟩ :: ⟨_, (true && ((!x15) == false)), .raw u8⟩ :: ⟨_, (true && ((!x15) == false)), .raw (.int .i64 y12)⟩ :: ⟨_, (true && ((!x15) == false)), .qtr E_impl_Test A (gtD (gtD p0 y5) y12)⟩ :: ⟨_, (true && ((!x15) == false)), .qtr (eInt .i64) A ((gtD (gtD p0 y5) y12).2.1)⟩ :: ⟨_, (true && ((!x15) == false)), .raw (.int .i64 ((gtD (gtD p0 y5) y12).2.1))⟩ :: ⟨_, (true && ((!x15) == false)), .raw (.bool x18)⟩ :: ⟨_, (true && ((!x15) == false)), .raw (.bool (!x18))⟩ :: ⟨_, true, .raw (.bool x20)⟩ :: ⟨_, true, .raw (.bool x20)⟩ :: ⟨_, (true && (x20 == false)), .raw (.int .i64 y12)⟩ :: ⟨_, (true && (x20 == false)), .raw (.bool (decide ((0 : Int) < y12)))⟩ :: ⟨_, (true && (x20 == false)), .raw (.bool (decide ((0 : Int) < y12)))⟩ :: ⟨_, ((true && (x20 == false)) && ((decide ((0 : Int) < y12)) == true)), .raw u8⟩ :: ⟨_, ((true && (x20 == false)) && ((decide ((0 : Int) < y12)) == true)), .raw (.int .i64 y12)⟩ :: ⟨_, ((true && (x20 == false)) && ((decide ((0 : Int) < y12)) == true)), .raw (.int .i64 (y12 - (1 : Int)))⟩ :: ⟨_, ((true && (x20 == false)) && ((decide ((0 : Int) < y12)) == true)), .qtr E_impl_Test A (gtD (gtD p0 y5) (y12 - (1 : Int)))⟩ :: ⟨_, ((true && (x20 == false)) && ((decide ((0 : Int) < y12)) == true)), .qtr (eInt .i64) A ((gtD (gtD p0 y5) (y12 - (1 : Int))).1)⟩ :: ⟨_, ((true && (x20 == false)) && ((decide ((0 : Int) < y12)) == true)), .raw (.int .i64 ((gtD (gtD p0 y5) (y12 - (1 : Int))).1))⟩ :: ⟨_, ((true && (x20 == false)) && ((decide ((0 : Int) < y12)) == true)), .raw u8⟩ :: ⟨_, ((true && (x20 == false)) && ((decide ((0 : Int) < y12)) == true)), .raw (.int .i64 y12)⟩ :: ⟨_, ((true && (x20 == false)) && ((decide ((0 : Int) < y12)) == true)), .qtr E_impl_Test A (gtD (gtD p0 y5) y12)⟩ :: ⟨_, ((true && (x20 == false)) && ((decide ((0 : Int) < y12)) == true)), .qtr (eInt .i64) A ((gtD (gtD p0 y5) y12).1)⟩ :: ⟨_, ((true && (x20 == false)) && ((decide ((0 : Int) < y12)) == true)), .raw (.int .i64 ((gtD (gtD p0 y5) y12).1))⟩ :: ⟨_, ((true && (x20 == false)) && ((decide ((0 : Int) < y12)) == true)), .raw (.bool (decide (((gtD (gtD p0 y5) y12).1) ≤ ((gtD (gtD p0 y5) (y12 - (1 : Int))).1))))⟩ :: ⟨_, (true && (x20 == false)), .raw (.bool x25)⟩ :: ⟨_, true, .raw (.bool x27)⟩ :: []) (tl := []) (by kernel_rfl) (by kernel_rfl) (by kernel_rfl) (by kernel_rfl) ?_ ?_
     ·exact
       Obls.p (fun R' w' hw hs hd => of_move ((hs 4 rfl).trans h4)) <|
       Obls.p (fun R' w' hw hs hd => of_move ((hs 5 rfl).trans h5)) <|
       Obls.p (fun R' w' hw hs hd => by have a0 : R' 25 = u8 := hd.g 0 rfl; have a1 : R' 26 = .int .i64 y12 := hd.g 1 rfl; have ra0 := (f_u8.fr hw).eq a0; exact of_indexAddr ra0 a1 Try.underlying28 Try.sizeOf85 e14) <|
       Obls.p (fun R' w' hw hs hd => by have a0 : QRep E_impl_Test A w' (R' 27) (gtD (gtD p0 y5) y12) := hd.g 0 rfl; exact of_fieldAddr_q a0 ff_85_0 Try.sizeOf3 (by decide) fl_impl_Test_0 rfl) <|
       Obls.p (fun R' w' hw hs hd => by have a0 : QRep (eInt .i64) A w' (R' 28) ((gtD (gtD p0 y5) y12).1) := hd.g 0 rfl; exact OpF.int (of_load a0.ptr Try.isAgg3 Try.sizeOf3)) <|
       Obls.p (fun R' w' hw hs hd => by have a0 : R' 29 = .int .i64 ((gtD (gtD p0 y5) y12).1) := hd.g 0 rfl; exact of_call Try.call70 (M_spec_l1In_ok (q16 rfl) (hA.fr hw.size) a0 rfl rfl)) <|
       Obls.p (fun R' w' hw hs hd => by have a0 : R' 30 = .bool x15 := hd.g 0 rfl; exact of_not a0) <|
       Obls.p (fun R' w' hw hs hd => by have a0 : R' 31 = .bool (!x15) := hd.g 0 rfl; exact of_move a0) <|
       Obls.cons (Obl.grd 7 false _ _ _ rfl rfl rfl rfl rfl (by kernel_rfl) fun hg R' w' hw hs hd => by have a0 : R' 4 = u8 := (hs 4 rfl).trans h4; exact of_move a0) <|
       Obls.cons (Obl.grd 7 false _ _ _ rfl rfl rfl rfl rfl (by kernel_rfl) fun hg R' w' hw hs hd => by have a0 : R' 5 = .int .i64 y12 := (hs 5 rfl).trans h5; exact of_move a0) <|
       Obls.cons (Obl.grd 7 false _ _ _ rfl rfl rfl rfl rfl (by kernel_rfl) fun hg R' w' hw hs hd => by have a0 : R' 33 = u8 := hd 0 _ _ _ rfl rfl rfl rfl hg; have a1 : R' 34 = .int .i64 y12 := hd 1 _ _ _ rfl rfl rfl rfl hg; have ra0 := (f_u8.fr hw).eq a0; exact of_indexAddr ra0 a1 Try.underlying28 Try.sizeOf85 (gd e17 hg)) <|
       Obls.cons (Obl.grd 7 false _ _ _ rfl rfl rfl rfl rfl (by kernel_rfl) fun hg R' w' hw hs hd => by have a0 : QRep E_impl_Test A w' (R' 35) (gtD (gtD p0 y5) y12) := hd 0 _ _ _ rfl rfl rfl rfl hg; exact of_fieldAddr_q a0 ff_85_1 Try.sizeOf3 (by decide) fl_impl_Test_1 rfl) <|
       Obls.cons (Obl.grd 7 false _ _ _ rfl rfl rfl rfl rfl (by kernel_rfl) fun hg R' w' hw hs hd => by have a0 : QRep (eInt .i64) A w' (R' 36) ((gtD (gtD p0 y5) y12).2.1) := hd 0 _ _ _ rfl rfl rfl rfl hg; exact OpF.int (of_load a0.ptr Try.isAgg3 Try.sizeOf3)) <|
       Obls.cons (Obl.grd 7 false _ _ _ rfl rfl rfl rfl rfl (by kernel_rfl) fun hg R' w' hw hs hd => by have a0 : R' 37 = .int .i64 ((gtD (gtD p0 y5) y12).2.1) := hd 0 _ _ _ rfl rfl rfl rfl hg; exact of_call Try.call70 (M_spec_l1In_ok (q19 hg) (hA.fr hw.size) a0 rfl rfl)) <|
       Obls.cons (Obl.grd 7 false _ _ _ rfl rfl rfl rfl rfl (by kernel_rfl) fun hg R' w' hw hs hd => by have a0 : R' 38 = .bool x18 := hd 0 _ _ _ rfl rfl rfl rfl hg; exact of_not a0) <|
       Obls.p (fun R' w' hw hs hd => by have a0 : R' 32 = .bool (!x15) := hd.g 0 rfl; exact of_pick (!x15) a0 (fun hc => by show _ = Value.bool x20; rw [q21, hc]; exact rfl) (fun hc => by have a2 : R' 39 = .bool (!x18) := hd 1 _ _ _ rfl rfl rfl rfl (g_and rfl (beq_of hc)); show _ = Value.bool x20; rw [q21, hc]; exact a2)) <|
       Obls.p (fun R' w' hw hs hd => by have a0 : R' 40 = .bool x20 := hd.g 0 rfl; exact of_move a0) <|
       Obls.cons (Obl.grd 16 false _ _ _ rfl rfl rfl rfl rfl (by kernel_rfl) fun hg R' w' hw hs hd => by have a0 : R' 5 = .int .i64 y12 := (hs 5 rfl).trans h5; exact of_move a0) <|
       Obls.cons (Obl.grd 16 false _ _ _ rfl rfl rfl rfl rfl (by kernel_rfl) fun hg R' w' hw hs hd => by have a0 : R' 42 = .int .i64 y12 := hd 0 _ _ _ rfl rfl rfl rfl hg; exact of_gtr a0 rfl) <|
       Obls.cons (Obl.grd 16 false _ _ _ rfl rfl rfl rfl rfl (by kernel_rfl) fun hg R' w' hw hs hd => by have a0 : R' 43 = .bool (decide ((0 : Int) < y12)) := hd 0 _ _ _ rfl rfl rfl rfl hg; exact of_move a0) <|
       Obls.cons (Obl.grd 19 true _ _ _ rfl rfl rfl rfl rfl (by kernel_rfl) fun hg R' w' hw hs hd => by have a0 : R' 4 = u8 := (hs 4 rfl).trans h4; exact of_move a0) <|
       Obls.cons (Obl.grd 19 true _ _ _ rfl rfl rfl rfl rfl (by kernel_rfl) fun hg R' w' hw hs hd => by have a0 : R' 5 = .int .i64 y12 := (hs 5 rfl).trans h5; exact of_move a0) <|
       Obls.cons (Obl.grd 19 true _ _ _ rfl rfl rfl rfl rfl (by kernel_rfl) fun hg R' w' hw hs hd => by have a0 : R' 46 = .int .i64 y12 := hd 0 _ _ _ rfl rfl rfl rfl hg; exact of_sub a0 rfl (gd e22 hg)) <|
       Obls.cons (Obl.grd 19 true _ _ _ rfl rfl rfl rfl rfl (by kernel_rfl) fun hg R' w' hw hs hd => by have a0 : R' 45 = u8 := hd 0 _ _ _ rfl rfl rfl rfl hg; have a1 : R' 47 = .int .i64 (y12 - (1 : Int)) := hd 1 _ _ _ rfl rfl rfl rfl hg; have ra0 := (f_u8.fr hw).eq a0; exact of_indexAddr ra0 a1 Try.underlying28 Try.sizeOf85 (gd e23 hg)) <|
       Obls.cons (Obl.grd 19 true _ _ _ rfl rfl rfl rfl rfl (by kernel_rfl) fun hg R' w' hw hs hd => by have a0 : QRep E_impl_Test A w' (R' 48) (gtD (gtD p0 y5) (y12 - (1 : Int))) := hd 0 _ _ _ rfl rfl rfl rfl hg; exact of_fieldAddr_q a0 ff_85_0 Try.sizeOf3 (by decide) fl_impl_Test_0 rfl) <|
       Obls.cons (Obl.grd 19 true _ _ _ rfl rfl rfl rfl rfl (by kernel_rfl) fun hg R' w' hw hs hd => by have a0 : QRep (eInt .i64) A w' (R' 49) ((gtD (gtD p0 y5) (y12 - (1 : Int))).1) := hd 0 _ _ _ rfl rfl rfl rfl hg; exact OpF.int (of_load a0.ptr Try.isAgg3 Try.sizeOf3)) <|
       Obls.cons (Obl.grd 19 true _ _ _ rfl rfl rfl rfl rfl (by kernel_rfl) fun hg R' w' hw hs hd => by have a0 : R' 4 = u8 := (hs 4 rfl).trans h4; exact of_move a0) <|
       Obls.cons (Obl.grd 19 true _ _ _ rfl rfl rfl rfl rfl (by kernel_rfl) fun hg R' w' hw hs hd => by have a0 : R' 5 = .int .i64 y12 := (hs 5 rfl).trans h5; exact of_move a0) <|
       Obls.cons (Obl.grd 19 true _ _ _ rfl rfl rfl rfl rfl (by kernel_rfl) fun hg R' w' hw hs hd => by have a0 : R' 51 = u8 := hd 0 _ _ _ rfl rfl rfl rfl hg; have a1 : R' 52 = .int .i64 y12 := hd 1 _ _ _ rfl rfl rfl rfl hg; have ra0 := (f_u8.fr hw).eq a0; exact of_indexAddr ra0 a1 Try.underlying28 Try.sizeOf85 (gd e24 hg)) <|
       Obls.cons (Obl.grd 19 true _ _ _ rfl rfl rfl rfl rfl (by kernel_rfl) fun hg R' w' hw hs hd => by have a0 : QRep E_impl_Test A w' (R' 53) (gtD (gtD p0 y5) y12) := hd 0 _ _ _ rfl rfl rfl rfl hg; exact of_fieldAddr_q a0 ff_85_0 Try.sizeOf3 (by decide) fl_impl_Test_0 rfl) <|
       Obls.cons (Obl.grd 19 true _ _ _ rfl rfl rfl rfl rfl (by kernel_rfl) fun hg R' w' hw hs hd => by have a0 : QRep (eInt .i64) A w' (R' 54) ((gtD (gtD p0 y5) y12).1) := hd 0 _ _ _ rfl rfl rfl rfl hg; exact OpF.int (of_load a0.ptr Try.isAgg3 Try.sizeOf3)) <|
       Obls.cons (Obl.grd 19 true _ _ _ rfl rfl rfl rfl rfl (by kernel_rfl) fun hg R' w' hw hs hd => by have a0 : R' 50 = .int .i64 ((gtD (gtD p0 y5) (y12 - (1 : Int))).1) := hd 0 _ _ _ rfl rfl rfl rfl hg; have a1 : R' 55 = .int .i64 ((gtD (gtD p0 y5) y12).1) := hd 1 _ _ _ rfl rfl rfl rfl hg; exact of_geq a0 a1) <|
       Obls.cons (Obl.grd 16 false _ _ _ rfl rfl rfl rfl rfl (by kernel_rfl) fun hg R' w' hw hs hd => by have a0 : R' 44 = .bool (decide ((0 : Int) < y12)) := hd 0 _ _ _ rfl rfl rfl rfl hg; exact of_pick (decide ((0 : Int) < y12)) a0 (fun hc => by have a1 : R' 56 = .bool (decide (((gtD (gtD p0 y5) y12).1) ≤ ((gtD (gtD p0 y5) (y12 - (1 : Int))).1))) := hd 1 _ _ _ rfl rfl rfl rfl (g_and hg (beq_of hc)); show _ = Value.bool x25; rw [q26, hc]; exact a1) (fun hc => by show _ = Value.bool x25; rw [q26, hc]; exact rfl)) <|
       Obls.p (fun R' w' hw hs hd => by have a0 : R' 41 = .bool x20 := hd.g 0 rfl; exact of_pick x20 a0 (fun hc => by show _ = Value.bool x27; rw [q28, hc]; exact rfl) (fun hc => by have a2 : R' 57 = .bool x25 := hd 1 _ _ _ rfl rfl rfl rfl (g_and rfl (beq_of hc)); show _ = Value.bool x27; rw [q28, hc]; exact a2)) <|
       Obls.nil
     intro R w hw hs hF'
     replace h1 := (hs 1 rfl).trans h1
     replace h3 := (hs 3 rfl).trans h3
     replace h4 := (hs 4 rfl).trans h4
     replace h5 := (hs 5 rfl).trans h5
     have h58 : R 58 = .bool x27 := hF' 33 _ _ rfl rfl rfl
     replace f_u8 := f_u8.fr hw
     replace hO := hO.fr hw
     replace hA := hA.fr hw.size
     replace hF := hF.trans hw
     clear hs hF' hw
     refine seqR_nil ?_
     refine HT.cond x27 h58 (fun c29 => ?_) (fun c29 => ?_)
     ·have hr := cnd_t c29 hr
      refine HT.seq ?_
      refine HT.text (l := ⟨_, true, .raw (.bool false)⟩ :: []) (tl := []) (by kernel_rfl) (by kernel_rfl) (by kernel_rfl) ?_ ?_
      ·exact
        Obls.p (fun R' w' hw hs hd => of_assign rfl) <|
        Obls.nil
      intro R w hw hs hF'
      have h2 : R 2 = .bool false := hF' 0 _ _ rfl rfl rfl
      replace hO := hO.fr hw
      replace hO : IniOK [] A w := hO.sub [] trivial
      replace hA := hA.fr hw.size
      replace hF := hF.trans hw
      clear hs hF' hw
      refine seqR_nil ?_
      refine HT.ret ?_
      obtain rfl := Option.some.inj hr
      have hr := hr1
      replace hr : some _ = some _ := hr
      obtain rfl := Option.some.inj hr
      have hr := hr0
      replace hr : some _ = some _ := hr
      obtain rfl := Option.some.inj hr
      exact ⟨.inr rfl, [R 2], ⟨rfl, trivial⟩, h2, hF⟩
     ·have hr := cnd_f c29 hr
      refine HT.skip ?_
      obtain ⟨e30, hr⟩ := ck_some hr
      refine HT.text (l := ⟨_, true, .raw (.int .i64 y12)⟩ :: ⟨_, true, .raw (.int .i64 (y12 + (1 : Int)))⟩ :: ⟨_, true, .raw (.int .i64 (y12 + (1 : Int)))⟩ :: []) (tl := []) (by kernel_rfl) (by kernel_rfl) (by kernel_rfl) ?_ ?_
      ·exact
        Obls.p (fun R' w' hw hs hd => of_move ((hs 5 rfl).trans h5)) <|
        Obls.p (fun R' w' hw hs hd => by have a0 : R' 23 = .int .i64 y12 := hd.g 0 rfl; exact of_add a0 rfl e30) <|
        Obls.p (fun R' w' hw hs hd => by have a0 : R' 24 = .int .i64 (y12 + (1 : Int)) := hd.g 0 rfl; exact of_assign a0) <|
        Obls.nil
      intro R w hw hs hF'
      replace h1 := (hs 1 rfl).trans h1
      replace h3 := (hs 3 rfl).trans h3
      replace h4 := (hs 4 rfl).trans h4
      have h5 : R 5 = .int .i64 (y12 + (1 : Int)) := hF' 2 _ _ rfl rfl rfl
      replace f_u8 := f_u8.fr hw
      replace hO := hO.fr hw
      replace hA := hA.fr hw.size
      replace hF := hF.trans hw
      clear hs hF' hw
      refine seqR_nil ?_
      exact Exists.intro k (And.intro (Nat.lt_succ_self k) ⟨_, _, hr, hA, hF, hAA, hO, h1, h3, h4, h5, f_u8⟩)
    ·have hr := cnd_f c13 hr
     refine HT.exit ?_
     obtain rfl := Option.some.inj hr
     exact Exists.intro _ ⟨_, rfl, hA, hF, hAA, hO, h1, h3, h4, f_u8⟩
   rintro R w ⟨A, s11, rfl, hA, hF, hAA, hO, h1, h3, h4, f_u8⟩
   have hr := exM_go hr
   refine HT.seq ?_
   obtain ⟨x31, q32, hr⟩ := cl_some hr
   refine HT.text (l := ⟨_, true, .raw u8⟩ :: ⟨_, true, .raw (.int .i64 ((gtD p0 y5).length : Int))⟩ :: ⟨_, true, .raw (.bool x31)⟩ :: ⟨_, true, .raw (.bool (!x31))⟩ :: []) (tl := []) (by kernel_rfl) (by kernel_rfl) (by kernel_rfl) ?_ ?_
   ·exact
     Obls.p (fun R' w' hw hs hd => of_move ((hs 4 rfl).trans h4)) <|
     Obls.p (fun R' w' hw hs hd => by have a0 : R' 59 = u8 := hd.g 0 rfl; have ra0 := (f_u8.fr hw).eq a0; exact of_len_sl (aT := #[]) ra0 Try.underlying28) <|
     Obls.p (fun R' w' hw hs hd => by have a0 : R' 60 = .int .i64 ((gtD p0 y5).length : Int) := hd.g 0 rfl; exact of_call Try.call70 (M_spec_l1In_ok (q32 rfl) (hA.fr hw.size) a0 rfl rfl)) <|
     Obls.p (fun R' w' hw hs hd => by have a0 : R' 61 = .bool x31 := hd.g 0 rfl; exact of_not a0) <|
     Obls.nil
   intro R w hw hs hF'
   replace h1 := (hs 1 rfl).trans h1
   replace h3 := (hs 3 rfl).trans h3
   have h62 : R 62 = .bool (!x31) := hF' 3 _ _ rfl rfl rfl
   replace hO := hO.fr hw
   replace hA := hA.fr hw.size
   replace hF := hF.trans hw
   clear hs hF' hw
   refine seqR_nil ?_
   refine HT.cond (!x31) h62 (fun c33 => ?_) (fun c33 => ?_)
   ·have hr := cnd_t c33 hr
    refine HT.seq ?_
    refine HT.text (l := ⟨_, true, .raw (.bool false)⟩ :: []) (tl := []) (by kernel_rfl) (by kernel_rfl) (by kernel_rfl) ?_ ?_
    ·exact
      Obls.p (fun R' w' hw hs hd => of_assign rfl) <|
      Obls.nil
    intro R w hw hs hF'
    have h2 : R 2 = .bool false := hF' 0 _ _ rfl rfl rfl
    replace hO := hO.fr hw
    replace hO : IniOK [] A w := hO.sub [] trivial
    replace hA := hA.fr hw.size
    replace hF := hF.trans hw
    clear hs hF' hw
    refine seqR_nil ?_
    refine HT.ret ?_
    obtain rfl := Option.some.inj hr
    have hr := hr0
    replace hr : some _ = some _ := hr
    obtain rfl := Option.some.inj hr
    exact ⟨.inr rfl, [R 2], ⟨rfl, trivial⟩, h2, hF⟩
   ·have hr := cnd_f c33 hr
    refine HT.skip ?_
    obtain ⟨e34, hr⟩ := ck_some hr
    refine HT.text (l := ⟨_, true, .raw (.int .i64 y5)⟩ :: ⟨_, true, .raw (.int .i64 (y5 + (1 : Int)))⟩ :: ⟨_, true, .raw (.int .i64 (y5 + (1 : Int)))⟩ :: []) (tl := []) (by kernel_rfl) (by kernel_rfl) (by kernel_rfl) ?_ ?_
    ·exact
      Obls.p (fun R' w' hw hs hd => of_move ((hs 3 rfl).trans h3)) <|
      Obls.p (fun R' w' hw hs hd => by have a0 : R' 11 = .int .i64 y5 := hd.g 0 rfl; exact of_add a0 rfl e34) <|
      Obls.p (fun R' w' hw hs hd => by have a0 : R' 12 = .int .i64 (y5 + (1 : Int)) := hd.g 0 rfl; exact of_assign a0) <|
      Obls.nil
    intro R w hw hs hF'
    replace h1 := (hs 1 rfl).trans h1
    have h3 : R 3 = .int .i64 (y5 + (1 : Int)) := hF' 2 _ _ rfl rfl rfl
    replace hO := hO.fr hw
    replace hA := hA.fr hw.size
    replace hF := hF.trans hw
    clear hs hF' hw
    refine seqR_nil ?_
    exact Exists.intro k (And.intro (Nat.lt_succ_self k) ⟨_, _, hr, hA, hF, hAA, hO, h1, h3⟩)
  ·have hr := cnd_f c6 hr
   refine HT.exit ?_
   obtain rfl := Option.some.inj hr
   exact Exists.intro _ ⟨_, rfl, hA, hF, hAA, hO, h1⟩
 rintro R w ⟨A, s4, rfl, hA, hF, hAA, hO, h1⟩
 have hr := exM_go hr
 refine HT.seq ?_
 obtain ⟨x35, q36, hr⟩ := cl_some hr
 refine HT.text (l := ⟨_, true, .raw (.pointer (some ⟨b1_0, 0, none⟩))⟩ :: ⟨_, true, .rep (eSl E_impl_Rule) A p0⟩ :: ⟨_, true, .raw (.int .i64 (p0.length : Int))⟩ :: ⟨_, true, .raw (.bool x35)⟩ :: ⟨_, true, .raw (.bool x35)⟩ :: []) (tl := []) (by kernel_rfl) (by kernel_rfl) (by kernel_rfl) ?_ ?_
 ·exact
   Obls.p (fun R' w' hw hs hd => of_fieldAddr_raw ((hs 1 rfl).trans h1) ff_62_0 Try.sizeOf60 (by decide) rfl) <|
   Obls.p (fun R' w' hw hs hd => by have a0 : R' 63 = (.pointer (some ⟨b1_0, 0, none⟩)) := hd.g 0 rfl; exact (of_load_box ((hO.fr hw).ok 0 _ rfl).1 a0 fl_impl_RuleSet_0 rfl Try.isAgg60 Try.sizeOf60)) <|
   Obls.p (fun R' w' hw hs hd => by have a0 : Rep (eSl E_impl_Rule) A w' (R' 64) p0 := hd.g 0 rfl; exact of_len_sl (aT := #[]) a0 Try.underlying60) <|
   Obls.p (fun R' w' hw hs hd => by have a0 : R' 65 = .int .i64 (p0.length : Int) := hd.g 0 rfl; exact of_call Try.call70 (M_spec_l1In_ok (q36 rfl) (hA.fr hw.size) a0 rfl rfl)) <|
   Obls.p (fun R' w' hw hs hd => by have a0 : R' 66 = .bool x35 := hd.g 0 rfl; exact of_assign a0) <|
   Obls.nil
 intro R w hw hs hF'
 have h2 : R 2 = .bool x35 := hF' 4 _ _ rfl rfl rfl
 replace hO := hO.fr hw
 replace hO : IniOK [] A w := hO.sub [] trivial
 replace hA := hA.fr hw.size
 replace hF := hF.trans hw
 clear hs hF' hw
 refine seqR_nil ?_
 refine HT.ret ?_
 obtain rfl := Option.some.inj hr
 exact ⟨.inr rfl, [R 2], ⟨rfl, trivial⟩, h2, hF⟩
def M_spec_l14Put_L0 (fu : Nat) (p0 : List Int) (p1 : Int) : Nat → Int → Option Int
 | 0, _ => none
 | k + 1, y4 =>
  ck (!(true && ((decide (y4 < (p0.length : Int))) == true)) || inR y4 p0.length) <|
  bd ((decide (y4 < (p0.length : Int))) && (decide ((gtD p0 y4) < p1))) fun x6 =>
  bif x6 then (
   ck (i64B (y4 + (1 : Int))) <|
   M_spec_l14Put_L0 fu p0 p1 k (y4 + (1 : Int))
  ) else (
   some y4
  )
def M_spec_l14Put (fu : Nat) (p0 : List Int) (p1 : Int) : Option (List Int) :=
 cl true (M_spec_l14Put_L0 fu p0 p1 fu (0 : Int)) fun s3 =>
 ck (!(true && ((decide (s3 < (p0.length : Int))) == true)) || inR s3 p0.length) <|
 bd ((decide (s3 < (p0.length : Int))) && ((gtD p0 s3) == p1)) fun x11 =>
 bif x11 then (
  some p0
 ) else (
  ck (subR 0 s3 p0.length) <|
  ck (lenOK (([] : List Int).length + (subL p0 0 s3).length)) <|
  ck (lenOK ((([] : List Int) ++ (subL p0 0 s3)).length + ([p1] : List Int).length)) <|
  ck (subR s3 (p0.length : Int) p0.length) <|
  ck (lenOK (((([] : List Int) ++ (subL p0 0 s3)) ++ ([p1] : List Int)).length + (subL p0 s3 (p0.length : Int)).length)) <|
  some (((([] : List Int) ++ (subL p0 0 s3)) ++ ([p1] : List Int)) ++ (subL p0 s3 (p0.length : Int)))
 )
theorem M_spec_l14Put_ok {fu : Nat} {A0 : Av} {p0 : List Int} {p1 : Int} {r : List Int} (hr : M_spec_l14Put fu p0 p1 = some r) {w : World} {v0 : Value} {v1 : Value} (hA : AvOK A0 w) (h0 : Rep (eSl (eInt .i64)) A0 w v0 p0) (h1 : v1 = .int .i64 p1) :
  Calls Try.prog 115 #[v0, v1] w fun e w' => ∃ v, e = .returned v ∧ (Rep (eSl (eInt .i64)) A0 w' v r ∧ Fr w w') := by
 unfold M_spec_l14Put at hr
 obtain ⟨w0, hw0⟩ : ∃ w0, w0 = w := ⟨_, rfl⟩
 have hF : Fr w0 w := hw0 ▸ Fr.refl _
 have hA0 : ∀ b o, A0 b o → b < w0.heap.size := fun b o h => hw0 ▸ hA b o h
 have hA00 : AvOK A0 w0 := hA0
 rw [show Fr w = Fr w0 from hw0 ▸ rfl]
 clear hw0
 obtain ⟨A, hAe⟩ : ∃ A, A = A0 := ⟨_, rfl⟩
 have hAA : ∀ b o, A0 b o → A b o := fun b o h => hAe ▸ h
 replace hA : AvOK A w := hAe ▸ hA
 have hO : IniOK [] A w := IniOK.nil
 refine calls_of_HT2 [.tmp 4] Try.func115 Try.ntmps115 (by decide) rfl rfl (Nat.le_of_ble_eq_true rfl) ?_
 intro R hR
 have f_v0 : Rep (eSl (eInt .i64)) A w v0 p0 := hAe ▸ h0
 replace h0 : R 0 = v0 := hR 0 _ rfl
 replace h1 : R 1 = .int .i64 p1 := (hR 1 _ rfl).trans h1
 clear hR hAe
 refine HT.seq ?_
 refine HT.text (l := ⟨_, true, .rep (eSl (eInt .i64)) A ([] : List Int)⟩ :: []) (tl := []) (by kernel_rfl) (by kernel_rfl) (by kernel_rfl) ?_ ?_
 ·exact
   Obls.p (fun R' w' hw hs hd => of_assign rep_nil) <|
   Obls.nil
 intro R w hw hs hF'
 replace h0 := (hs 0 rfl).trans h0
 replace h1 := (hs 1 rfl).trans h1
 replace f_v0 := f_v0.fr hw
 replace hO := hO.fr hw
 replace hA := hA.fr hw.size
 replace hF := hF.trans hw
 clear hs hF' hw
 refine seqR_nil ?_
 refine HT.seq ?_
 refine HT.text (l := ⟨_, true, .raw (.int .i64 (0 : Int))⟩ :: []) (tl := []) (by kernel_rfl) (by kernel_rfl) (by kernel_rfl) ?_ ?_
 ·exact
   Obls.p (fun R' w' hw hs hd => of_assign rfl) <|
   Obls.nil
 intro R w hw hs hF'
 replace h0 := (hs 0 rfl).trans h0
 replace h1 := (hs 1 rfl).trans h1
 have h5 : R 5 = .int .i64 (0 : Int) := hF' 0 _ _ rfl rfl rfl
 replace f_v0 := f_v0.fr hw
 replace hO := hO.fr hw
 replace hA := hA.fr hw.size
 replace hF := hF.trans hw
 clear hs hF' hw
 refine seqR_nil ?_
 obtain ⟨rl1, q2, hr⟩ := cl_some hr
 replace q2 := q2 rfl
 refine HT.cut (fun R w => ∃ A : Av, ∃ (s3 : Int), rl1 = s3 ∧ AvOK A w ∧ Fr w0 w ∧ (∀ b o, A0 b o → A b o) ∧ IniOK [] A w ∧ R 0 = v0 ∧ R 1 = .int .i64 p1 ∧ R 5 = .int .i64 s3 ∧ Rep (eSl (eInt .i64)) A w v0 p0) ?_ ?_
 ·refine HT.block ?_
  refine HT.loop (fun k R w => ∃ A : Av, ∃ (y4 : Int), M_spec_l14Put_L0 fu p0 p1 k y4 = some rl1 ∧ AvOK A w ∧ Fr w0 w ∧ (∀ b o, A0 b o → A b o) ∧ IniOK [] A w ∧ R 0 = v0 ∧ R 1 = .int .i64 p1 ∧ R 5 = .int .i64 y4 ∧ Rep (eSl (eInt .i64)) A w v0 p0) fu ⟨_, _, q2, hA, hF, hAA, hO, h0, h1, h5, f_v0⟩ ?_
  have hr0 := hr; clear hr q2
  rintro k R w ⟨A, y4, hr, hA, hF, hAA, hO, h0, h1, h5, f_v0⟩
  rcases k with _ | k
  ·cases (show none = some _ from hr)
  rw [M_spec_l14Put_L0] at hr
  refine HT.seq ?_
  refine HT.seq ?_
  obtain ⟨e5, hr⟩ := ck_some hr
  obtain ⟨x6, q7, hr⟩ := bd_some hr
  refine HT.text (l := ⟨_, true, .raw (.int .i64 y4)⟩ :: ⟨_, true, .raw v0⟩ :: ⟨_, true, .raw (.int .i64 (p0.length : Int))⟩ :: ⟨_, true, .raw (.bool (decide (y4 < (p0.length : Int))))⟩ :: ⟨_, true, .raw (.bool (decide (y4 < (p0.length : Int))))⟩ :: ⟨_, (true && ((decide (y4 < (p0.length : Int))) == true)), .raw v0⟩ :: ⟨_, (true && ((decide (y4 < (p0.length : Int))) == true)), .raw (.int .i64 y4)⟩ :: ⟨_, (true && ((decide (y4 < (p0.length : Int))) == true)), .qtr (eInt .i64) A (gtD p0 y4)⟩ :: ⟨_, (true && ((decide (y4 < (p0.length : Int))) == true)), .raw (.int .i64 (gtD p0 y4))⟩ :: ⟨_, (true && ((decide (y4 < (p0.length : Int))) == true)), .raw (.int .i64 p1)⟩ :: ⟨_, (true && ((decide (y4 < (p0.length : Int))) == true)), .raw (.bool (decide ((gtD p0 y4) < p1)))⟩ :: ⟨_, true, .raw (.bool x6)⟩ :: []) (tl := []) (by kernel_rfl) (by kernel_rfl) (by kernel_rfl) ?_ ?_
  ·exact
    Obls.p (fun R' w' hw hs hd => of_move ((hs 5 rfl).trans h5)) <|
    Obls.p (fun R' w' hw hs hd => of_move ((hs 0 rfl).trans h0)) <|
    Obls.p (fun R' w' hw hs hd => by have a0 : R' 7 = v0 := hd.g 0 rfl; have ra0 := (f_v0.fr hw).eq a0; exact of_len_sl (aT := #[]) ra0 Try.underlying25) <|
    Obls.p (fun R' w' hw hs hd => by have a0 : R' 6 = .int .i64 y4 := hd.g 0 rfl; have a1 : R' 8 = .int .i64 (p0.length : Int) := hd.g 1 rfl; exact of_lss a0 a1) <|
    Obls.p (fun R' w' hw hs hd => by have a0 : R' 9 = .bool (decide (y4 < (p0.length : Int))) := hd.g 0 rfl; exact of_move a0) <|
    Obls.cons (Obl.grd 4 true _ _ _ rfl rfl rfl rfl rfl (by kernel_rfl) fun hg R' w' hw hs hd => by have a0 : R' 0 = v0 := (hs 0 rfl).trans h0; exact of_move a0) <|
    Obls.cons (Obl.grd 4 true _ _ _ rfl rfl rfl rfl rfl (by kernel_rfl) fun hg R' w' hw hs hd => by have a0 : R' 5 = .int .i64 y4 := (hs 5 rfl).trans h5; exact of_move a0) <|
    Obls.cons (Obl.grd 4 true _ _ _ rfl rfl rfl rfl rfl (by kernel_rfl) fun hg R' w' hw hs hd => by have a0 : R' 11 = v0 := hd 0 _ _ _ rfl rfl rfl rfl hg; have a1 : R' 12 = .int .i64 y4 := hd 1 _ _ _ rfl rfl rfl rfl hg; have ra0 := (f_v0.fr hw).eq a0; exact of_indexAddr ra0 a1 Try.underlying25 Try.sizeOf3 (gd e5 hg)) <|
    Obls.cons (Obl.grd 4 true _ _ _ rfl rfl rfl rfl rfl (by kernel_rfl) fun hg R' w' hw hs hd => by have a0 : QRep (eInt .i64) A w' (R' 13) (gtD p0 y4) := hd 0 _ _ _ rfl rfl rfl rfl hg; exact OpF.int (of_load a0.ptr Try.isAgg3 Try.sizeOf3)) <|
    Obls.cons (Obl.grd 4 true _ _ _ rfl rfl rfl rfl rfl (by kernel_rfl) fun hg R' w' hw hs hd => by have a0 : R' 1 = .int .i64 p1 := (hs 1 rfl).trans h1; exact of_move a0) <|
    Obls.cons (Obl.grd 4 true _ _ _ rfl rfl rfl rfl rfl (by kernel_rfl) fun hg R' w' hw hs hd => by have a0 : R' 14 = .int .i64 (gtD p0 y4) := hd 0 _ _ _ rfl rfl rfl rfl hg; have a1 : R' 15 = .int .i64 p1 := hd 1 _ _ _ rfl rfl rfl rfl hg; exact of_lss a0 a1) <|
    Obls.p (fun R' w' hw hs hd => by have a0 : R' 10 = .bool (decide (y4 < (p0.length : Int))) := hd.g 0 rfl; exact of_pick (decide (y4 < (p0.length : Int))) a0 (fun hc => by have a1 : R' 16 = .bool (decide ((gtD p0 y4) < p1)) := hd 1 _ _ _ rfl rfl rfl rfl (g_and rfl (beq_of hc)); show _ = Value.bool x6; rw [q7, hc]; exact a1) (fun hc => by show _ = Value.bool x6; rw [q7, hc]; exact rfl)) <|
    Obls.nil
  intro R w hw hs hF'
  replace h0 := (hs 0 rfl).trans h0
  replace h1 := (hs 1 rfl).trans h1
  replace h5 := (hs 5 rfl).trans h5
  have h17 : R 17 = .bool x6 := hF' 11 _ _ rfl rfl rfl
  replace f_v0 := f_v0.fr hw
  replace hO := hO.fr hw
  replace hA := hA.fr hw.size
  replace hF := hF.trans hw
  clear hs hF' hw
  refine seqR_nil ?_
  refine HT.cond x6 h17 (fun c8 => ?_) (fun c8 => ?_)
  ·have hr := cnd_t c8 hr
   refine HT.skip ?_
   refine HT.block ?_
   obtain ⟨e9, hr⟩ := ck_some hr
   refine HT.text (l := ⟨_, true, .raw (.int .i64 y4)⟩ :: ⟨_, true, .raw (.int .i64 (y4 + (1 : Int)))⟩ :: ⟨_, true, .raw (.int .i64 (y4 + (1 : Int)))⟩ :: []) (tl := []) (by kernel_rfl) (by kernel_rfl) (by kernel_rfl) ?_ ?_
   ·exact
     Obls.p (fun R' w' hw hs hd => of_move ((hs 5 rfl).trans h5)) <|
     Obls.p (fun R' w' hw hs hd => by have a0 : R' 18 = .int .i64 y4 := hd.g 0 rfl; exact of_add a0 rfl e9) <|
     Obls.p (fun R' w' hw hs hd => by have a0 : R' 19 = .int .i64 (y4 + (1 : Int)) := hd.g 0 rfl; exact of_assign a0) <|
     Obls.nil
   intro R w hw hs hF'
   replace h0 := (hs 0 rfl).trans h0
   replace h1 := (hs 1 rfl).trans h1
   have h5 : R 5 = .int .i64 (y4 + (1 : Int)) := hF' 2 _ _ rfl rfl rfl
   replace f_v0 := f_v0.fr hw
   replace hO := hO.fr hw
   replace hA := hA.fr hw.size
   replace hF := hF.trans hw
   clear hs hF' hw
   refine seqR_nil ?_
   exact Exists.intro k (And.intro (Nat.lt_succ_self k) ⟨_, _, hr, hA, hF, hAA, hO, h0, h1, h5, f_v0⟩)
  ·have hr := cnd_f c8 hr
   refine HT.exit ?_
   obtain rfl := Option.some.inj hr
   exact Exists.intro _ ⟨_, rfl, hA, hF, hAA, hO, h0, h1, h5, f_v0⟩
 rintro R w ⟨A, s3, es, hA, hF, hAA, hO, h0, h1, h5, f_v0⟩
 obtain rfl := es.symm
 refine HT.seq ?_
 refine HT.seq ?_
 obtain ⟨e10, hr⟩ := ck_some hr
 obtain ⟨x11, q12, hr⟩ := bd_some hr
 refine HT.text (l := ⟨_, true, .raw (.int .i64 s3)⟩ :: ⟨_, true, .raw v0⟩ :: ⟨_, true, .raw (.int .i64 (p0.length : Int))⟩ :: ⟨_, true, .raw (.bool (decide (s3 < (p0.length : Int))))⟩ :: ⟨_, true, .raw (.bool (decide (s3 < (p0.length : Int))))⟩ :: ⟨_, (true && ((decide (s3 < (p0.length : Int))) == true)), .raw v0⟩ :: ⟨_, (true && ((decide (s3 < (p0.length : Int))) == true)), .raw (.int .i64 s3)⟩ :: ⟨_, (true && ((decide (s3 < (p0.length : Int))) == true)), .qtr (eInt .i64) A (gtD p0 s3)⟩ :: ⟨_, (true && ((decide (s3 < (p0.length : Int))) == true)), .raw (.int .i64 (gtD p0 s3))⟩ :: ⟨_, (true && ((decide (s3 < (p0.length : Int))) == true)), .raw (.int .i64 p1)⟩ :: ⟨_, (true && ((decide (s3 < (p0.length : Int))) == true)), .raw (.bool ((gtD p0 s3) == p1))⟩ :: ⟨_, true, .raw (.bool x11)⟩ :: []) (tl := []) (by kernel_rfl) (by kernel_rfl) (by kernel_rfl) ?_ ?_
 ·exact
   Obls.p (fun R' w' hw hs hd => of_move ((hs 5 rfl).trans h5)) <|
   Obls.p (fun R' w' hw hs hd => of_move ((hs 0 rfl).trans h0)) <|
   Obls.p (fun R' w' hw hs hd => by have a0 : R' 21 = v0 := hd.g 0 rfl; have ra0 := (f_v0.fr hw).eq a0; exact of_len_sl (aT := #[]) ra0 Try.underlying25) <|
   Obls.p (fun R' w' hw hs hd => by have a0 : R' 20 = .int .i64 s3 := hd.g 0 rfl; have a1 : R' 22 = .int .i64 (p0.length : Int) := hd.g 1 rfl; exact of_lss a0 a1) <|
   Obls.p (fun R' w' hw hs hd => by have a0 : R' 23 = .bool (decide (s3 < (p0.length : Int))) := hd.g 0 rfl; exact of_move a0) <|
   Obls.cons (Obl.grd 4 true _ _ _ rfl rfl rfl rfl rfl (by kernel_rfl) fun hg R' w' hw hs hd => by have a0 : R' 0 = v0 := (hs 0 rfl).trans h0; exact of_move a0) <|
   Obls.cons (Obl.grd 4 true _ _ _ rfl rfl rfl rfl rfl (by kernel_rfl) fun hg R' w' hw hs hd => by have a0 : R' 5 = .int .i64 s3 := (hs 5 rfl).trans h5; exact of_move a0) <|
   Obls.cons (Obl.grd 4 true _ _ _ rfl rfl rfl rfl rfl (by kernel_rfl) fun hg R' w' hw hs hd => by have a0 : R' 25 = v0 := hd 0 _ _ _ rfl rfl rfl rfl hg; have a1 : R' 26 = .int .i64 s3 := hd 1 _ _ _ rfl rfl rfl rfl hg; have ra0 := (f_v0.fr hw).eq a0; exact of_indexAddr ra0 a1 Try.underlying25 Try.sizeOf3 (gd e10 hg)) <|
   Obls.cons (Obl.grd 4 true _ _ _ rfl rfl rfl rfl rfl (by kernel_rfl) fun hg R' w' hw hs hd => by have a0 : QRep (eInt .i64) A w' (R' 27) (gtD p0 s3) := hd 0 _ _ _ rfl rfl rfl rfl hg; exact OpF.int (of_load a0.ptr Try.isAgg3 Try.sizeOf3)) <|
   Obls.cons (Obl.grd 4 true _ _ _ rfl rfl rfl rfl rfl (by kernel_rfl) fun hg R' w' hw hs hd => by have a0 : R' 1 = .int .i64 p1 := (hs 1 rfl).trans h1; exact of_move a0) <|
   Obls.cons (Obl.grd 4 true _ _ _ rfl rfl rfl rfl rfl (by kernel_rfl) fun hg R' w' hw hs hd => by have a0 : R' 28 = .int .i64 (gtD p0 s3) := hd 0 _ _ _ rfl rfl rfl rfl hg; have a1 : R' 29 = .int .i64 p1 := hd 1 _ _ _ rfl rfl rfl rfl hg; exact of_eql a0 a1) <|
   Obls.p (fun R' w' hw hs hd => by have a0 : R' 24 = .bool (decide (s3 < (p0.length : Int))) := hd.g 0 rfl; exact of_pick (decide (s3 < (p0.length : Int))) a0 (fun hc => by have a1 : R' 30 = .bool ((gtD p0 s3) == p1) := hd 1 _ _ _ rfl rfl rfl rfl (g_and rfl (beq_of hc)); show _ = Value.bool x11; rw [q12, hc]; exact a1) (fun hc => by show _ = Value.bool x11; rw [q12, hc]; exact rfl)) <|
   Obls.nil
 intro R w hw hs hF'
 replace h0 := (hs 0 rfl).trans h0
 replace h1 := (hs 1 rfl).trans h1
 replace h5 := (hs 5 rfl).trans h5
 have h31 : R 31 = .bool x11 := hF' 11 _ _ rfl rfl rfl
 replace f_v0 := f_v0.fr hw
 replace hO := hO.fr hw
 replace hA := hA.fr hw.size
 replace hF := hF.trans hw
 clear hs hF' hw
 refine seqR_nil ?_
 refine HT.cond x11 h31 (fun c13 => ?_) (fun c13 => ?_)
 ·have hr := cnd_t c13 hr
  refine HT.seq ?_
  refine HT.text (l := ⟨_, true, .raw v0⟩ :: ⟨_, true, .raw v0⟩ :: []) (tl := []) (by kernel_rfl) (by kernel_rfl) (by kernel_rfl) ?_ ?_
  ·exact
    Obls.p (fun R' w' hw hs hd => of_move ((hs 0 rfl).trans h0)) <|
    Obls.p (fun R' w' hw hs hd => by have a0 : R' 32 = v0 := hd.g 0 rfl; exact of_assign a0) <|
    Obls.nil
  intro R w hw hs hF'
  have h4 : R 4 = v0 := hF' 1 _ _ rfl rfl rfl
  replace f_v0 := f_v0.fr hw
  replace hO := hO.fr hw
  replace hA := hA.fr hw.size
  replace hF := hF.trans hw
  clear hs hF' hw
  refine seqR_nil ?_
  refine HT.ret ?_
  obtain rfl := Option.some.inj hr
  exact ⟨.inr rfl, [R 4], ⟨rfl, trivial⟩, (f_v0.eq h4).down hAA, hF⟩
 ·have hr := cnd_f c13 hr
  refine HT.skip ?_
  refine HT.seq ?_
  obtain ⟨e14, hr⟩ := ck_some hr
  obtain ⟨e15, hr⟩ := ck_some hr
  obtain ⟨e16, hr⟩ := ck_some hr
  obtain ⟨e17, hr⟩ := ck_some hr
  obtain ⟨e18, hr⟩ := ck_some hr
  refine HT.drawR [] (⟨_, true, [], some (.vec w0.heap.size 3 (eInt .i64) ([] : List Int)), true, fun A => .any⟩ :: ⟨_, true, [], none, true, fun A => .raw v0⟩ :: ⟨_, true, [], none, true, fun A => .raw (.int .i64 s3)⟩ :: ⟨_, true, [], none, true, fun A => .rep (eSl (eInt .i64)) A (subL p0 0 s3)⟩ :: ⟨_, true, [0], some (.vec w0.heap.size 3 (eInt .i64) (([] : List Int) ++ (subL p0 0 s3))), true, fun A => .any⟩ :: ⟨_, true, [], none, true, fun A => .raw (.int .i64 p1)⟩ :: ⟨_, true, [], none, true, fun A => .rep (eSl (eInt .i64)) A ([p1] : List Int)⟩ :: ⟨_, true, [4], some (.vec w0.heap.size 3 (eInt .i64) ((([] : List Int) ++ (subL p0 0 s3)) ++ ([p1] : List Int))), true, fun A => .any⟩ :: ⟨_, true, [], none, true, fun A => .raw v0⟩ :: ⟨_, true, [], none, true, fun A => .raw (.int .i64 s3)⟩ :: ⟨_, true, [], none, true, fun A => .rep (eSl (eInt .i64)) A (subL p0 s3 (p0.length : Int))⟩ :: ⟨_, true, [7], some (.nul), false, fun A => .rep (eSl (eInt .i64)) A (((([] : List Int) ++ (subL p0 0 s3)) ++ ([p1] : List Int)) ++ (subL p0 s3 (p0.length : Int)))⟩ :: ⟨_, true, [], none, true, fun A => .rep (eSl (eInt .i64)) A (((([] : List Int) ++ (subL p0 0 s3)) ++ ([p1] : List Int)) ++ (subL p0 s3 (p0.length : Int)))⟩ :: []) (by kernel_rfl) (by kernel_rfl) (by kernel_rfl) (Wf.mk' (by kernel_rfl) (UAll.cons ust_any (UAll.cons ust_raw (UAll.cons ust_raw (UAll.cons ust_rep (UAll.cons ust_any (UAll.cons ust_raw (UAll.cons ust_rep (UAll.cons ust_any (UAll.cons ust_raw (UAll.cons ust_raw (UAll.cons ust_rep (UAll.cons ust_rep (UAll.cons ust_rep (UAll.nil)))))))))))))) (by kernel_rfl) (by kernel_rfl)) hO hA ?_ ?_
  ·exact
    OblsR.cons (OblR.made _ rfl rfl rfl rfl fun A' R' w' ho hd => by exact made_build [] (E := eInt .i64) trivial Try.underlying25 Try.sizeOf3 Try.zeroValue3 rfl rfl rfl (Nat.le_trans hF.size ho.ch.size)) <|
    OblsR.p (fun A' R' w' ho hd => of_move ((ho.old 0 rfl).trans h0)) <|
    OblsR.p (fun A' R' w' ho hd => of_move ((ho.old 5 rfl).trans h5)) <|
    OblsR.p (fun A' R' w' ho hd => by have a0 : R' 34 = v0 := hd.g 0 rfl; have a1 : R' 35 = .int .i64 s3 := hd.g 1 rfl; have ra0 := (f_v0.stp ho.stp).eq a0; exact of_slice_sl_hi ra0 a1 Try.underlying25 Try.sizeOf3 e14) <|
    OblsR.cons (OblR.took 0 _ _ rfl rfl rfl rfl rfl fun A' R' w' ho hd u hok hav hin hop hds => by have a1 : Rep (eSl (eInt .i64)) A' w' (R' 36) (subL p0 0 s3) := hd.g 1 rfl; exact took_append (hop _ _ rfl rfl rfl rfl).symm hok hav (Nat.le_trans hF.size ho.ch.size) a1 Try.underlying25 el_3 e15) <|
    OblsR.p (fun A' R' w' ho hd => of_move ((ho.old 1 rfl).trans h1)) <|
    OblsR.p (fun A' R' w' ho hd => by have a0 : R' 38 = .int .i64 p1 := hd.g 0 rfl; exact of_build [_] (E := eInt .i64) ⟨(rep_int.eq a0), trivial⟩ Try.underlying25 Try.sizeOf3 Try.zeroValue3 rfl rfl rfl ho.av) <|
    OblsR.cons (OblR.took 4 _ _ rfl rfl rfl rfl rfl fun A' R' w' ho hd u hok hav hin hop hds => by have a1 : Rep (eSl (eInt .i64)) A' w' (R' 39) ([p1] : List Int) := hd.g 1 rfl; exact took_append (hop _ _ rfl rfl rfl rfl).symm hok hav (Nat.le_trans hF.size ho.ch.size) a1 Try.underlying25 el_3 e16) <|
    OblsR.p (fun A' R' w' ho hd => of_move ((ho.old 0 rfl).trans h0)) <|
    OblsR.p (fun A' R' w' ho hd => of_move ((ho.old 5 rfl).trans h5)) <|
    OblsR.p (fun A' R' w' ho hd => by have a0 : R' 41 = v0 := hd.g 0 rfl; have a1 : R' 42 = .int .i64 s3 := hd.g 1 rfl; have ra0 := (f_v0.stp ho.stp).eq a0; exact of_slice_sl_lo ra0 a1 Try.underlying25 Try.sizeOf3 e17) <|
    OblsR.cons (OblR.frz 7 _ rfl rfl rfl rfl rfl fun A' R' w' ho hd u hok hav hin hop hds => by have a1 : Rep (eSl (eInt .i64)) A' w' (R' 43) (subL p0 s3 (p0.length : Int)) := hd.g 1 rfl; exact OpR.thaw (took_append (hop _ _ rfl rfl rfl rfl).symm hok hav (Nat.le_trans hF.size ho.ch.size) a1 Try.underlying25 el_3 e18) ho.av hav) <|
    OblsR.p (fun A' R' w' ho hd => by have a0 : Rep (eSl (eInt .i64)) A' w' (R' 44) (((([] : List Int) ++ (subL p0 0 s3)) ++ ([p1] : List Int)) ++ (subL p0 s3 (p0.length : Int))) := hd.g 0 rfl; exact of_assign a0) <|
    OblsR.nil
  intro done ρ σ A R w hdn hI
  obtain ⟨u19, h4, f_u19⟩ : ∃ u, R 4 = u ∧ Rep (eSl (eInt .i64)) A w u (((([] : List Int) ++ (subL p0 0 s3)) ++ ([p1] : List Int)) ++ (subL p0 s3 (p0.length : Int))) := ⟨_, rfl, hI.fact hdn (i := 12) rfl rfl rfl⟩
  replace hAA := hI.low' hAA hA0 (hO.ge (trivial))
  replace hF : Fr w0 w := hF.tr hI.ch (hO.ge (trivial))
  replace hO : IniOK [] A w := hI.left hdn [] trivial
  replace hA := hI.avok
  clear hI
  refine HT.ret ?_
  obtain rfl := Option.some.inj hr
  exact ⟨.inr rfl, [R 4], ⟨rfl, trivial⟩, (f_u19.eq h4).down hAA, hF⟩
def M_spec_l14Levels_L1 (fu : Nat) (p0 : T_impl_RuleSet) (p1 : Int) (y7 : Int) : Nat → (List Int) → Int → Option (List Int)
 | 0, _, _ => none
 | k + 1, y12, y13 =>
  ck (inR y7 p0.length) <|
  bif (decide (y13 < ((gtD p0 y7).length : Int))) then (
   ck (inR y7 p0.length) <|
   ck (inR y13 (gtD p0 y7).length) <|
   bif (((gtD (gtD p0 y7) y13).1) == p1) then (
    cl true (M_spec_l14Put fu y12 ((gtD (gtD p0 y7) y13).2.1)) fun x22 =>
    ck (i64B (y13 + (1 : Int))) <|
    M_spec_l14Levels_L1 fu p0 p1 y7 k x22 (y13 + (1 : Int))
   ) else (
    ck (i64B (y13 + (1 : Int))) <|
    M_spec_l14Levels_L1 fu p0 p1 y7 k y12 (y13 + (1 : Int))
   )
  ) else (
   some y12
  )
def M_spec_l14Levels_L0 (fu : Nat) (p0 : T_impl_RuleSet) (p1 : Int) : Nat → (List Int) → Int → Option (List Int)
 | 0, _, _ => none
 | k + 1, y6, y7 =>
  bif (decide (y7 < (p0.length : Int))) then (
   cl true (M_spec_l14Levels_L1 fu p0 p1 y7 fu y6 (0 : Int)) fun s11 =>
   ck (i64B (y7 + (1 : Int))) <|
   M_spec_l14Levels_L0 fu p0 p1 k s11 (y7 + (1 : Int))
  ) else (
   some y6
  )
def M_spec_l14Levels (fu : Nat) (p0 : T_impl_RuleSet) (p1 : Int) : Option (List Int) :=
 cl true (M_spec_l14Levels_L0 fu p0 p1 fu ([(0 : Int)] : List Int) (0 : Int)) fun s5 =>
 some s5
theorem M_spec_l14Levels_ok {fu : Nat} {A0 : Av} {p0 : T_impl_RuleSet} {p1 : Int} {r : List Int} (hr : M_spec_l14Levels fu p0 p1 = some r) {w : World} {v0 : Value} {v1 : Value} (hA : AvOK A0 w) (h0 : Rep E_impl_RuleSet A0 w v0 p0) (h1 : v1 = .int .i64 p1) :
  Calls Try.prog 91 #[v0, v1] w fun e w' => ∃ v, e = .returned v ∧ (Rep (eSl (eInt .i64)) A0 w' v r ∧ Fr w w') := by
 unfold M_spec_l14Levels at hr
 obtain ⟨w0, hw0⟩ : ∃ w0, w0 = w := ⟨_, rfl⟩
 have hF : Fr w0 w := hw0 ▸ Fr.refl _
 have hA0 : ∀ b o, A0 b o → b < w0.heap.size := fun b o h => hw0 ▸ hA b o h
 have hA00 : AvOK A0 w0 := hA0
 rw [show Fr w = Fr w0 from hw0 ▸ rfl]
 clear hw0
 obtain ⟨A, hAe⟩ : ∃ A, A = A0 := ⟨_, rfl⟩
 have hAA : ∀ b o, A0 b o → A b o := fun b o h => hAe ▸ h
 replace hA : AvOK A w := hAe ▸ hA
 have hO : IniOK [] A w := IniOK.nil
 refine calls_of_HT2 [.tmp 4] Try.func91 Try.ntmps91 (by decide) rfl rfl (Nat.le_of_ble_eq_true rfl) ?_
 intro R hR
 have f_v0 : Rep E_impl_RuleSet A w v0 p0 := hAe ▸ h0
 replace h0 : R 0 = v0 := hR 0 _ rfl
 replace h1 : R 1 = .int .i64 p1 := (hR 1 _ rfl).trans h1
 clear hR hAe
 refine HT.seq ?_
 refine HT.textR [] (⟨_, true, [], some (.box w0.heap.size 62 E_impl_RuleSet p0), true, fun A => .any⟩ :: ⟨_, true, [], none, true, fun A => .rep (eSl (eInt .i64)) A ([] : List Int)⟩ :: []) (by kernel_rfl) (by kernel_rfl) (Wf.mk' (by kernel_rfl) (UAll.cons ust_any (UAll.cons ust_rep (UAll.nil))) (by kernel_rfl) (by kernel_rfl)) hO hA ?_ ?_
 ·exact
   OblsR.cons (OblR.made _ rfl rfl rfl rfl fun A' R' w' ho hd => by have a0 : R' 0 = v0 := (ho.old 0 rfl).trans h0; have ra0 := (f_v0.stp ho.stp).eq a0; exact made_box ra0 (Nat.le_trans hF.size ho.ch.size)) <|
   OblsR.p (fun A' R' w' ho hd => of_assign rep_nil) <|
   OblsR.nil
 intro done ρ σ A R w hdn hI
 replace h1 : R 1 = .int .i64 p1 := (hI.reg rfl).trans h1
 obtain ⟨b2_0, e_b2_0⟩ := hI.boxv hdn 0 rfl rfl
 have h2 : R 2 = (.pointer (some ⟨b2_0, 0, none⟩)) := (hI.opvR hdn 0 0 rfl rfl rfl rfl rfl).symm.trans e_b2_0
 replace hAA := hI.low' hAA hA0 (hO.ge (trivial))
 replace hF : Fr w0 w := hF.tr hI.ch (hO.ge (trivial))
 replace hO : IniOK [ob (.pointer (some ⟨b2_0, 0, none⟩)) (.box w0.heap.size 62 E_impl_RuleSet p0)] A w := hI.left hdn [(0, ob (.pointer (some ⟨b2_0, 0, none⟩)) (.box w0.heap.size 62 E_impl_RuleSet p0))] ⟨rfl, rfl, e_b2_0, rfl, rfl, trivial⟩
 replace hA := hI.avok
 clear hI
 refine HT.seq ?_
 refine HT.text (l := ⟨_, true, .rep (eSl (eInt .i64)) A ([(0 : Int)] : List Int)⟩ :: ⟨_, true, .rep (eSl (eInt .i64)) A ([(0 : Int)] : List Int)⟩ :: []) (tl := []) (by kernel_rfl) (by kernel_rfl) (by kernel_rfl) ?_ ?_
 ·exact
   Obls.p (fun R' w' hw hs hd => of_build [_] (E := eInt .i64) ⟨(rep_int.eq rfl), trivial⟩ Try.underlying25 Try.sizeOf3 Try.zeroValue3 rfl rfl rfl (hA.fr hw.size)) <|
   Obls.p (fun R' w' hw hs hd => by have a0 : Rep (eSl (eInt .i64)) A w' (R' 9) ([(0 : Int)] : List Int) := hd.g 0 rfl; exact of_assign a0) <|
   Obls.nil
 intro R w hw hs hF'
 replace h1 := (hs 1 rfl).trans h1
 replace h2 := (hs 2 rfl).trans h2
 obtain ⟨u2, h5, f_u2⟩ : ∃ u, R 5 = u ∧ Rep (eSl (eInt .i64)) A w u ([(0 : Int)] : List Int) := ⟨_, rfl, hF' 1 _ _ rfl rfl rfl⟩
 replace hO := hO.fr hw
 replace hA := hA.fr hw.size
 replace hF := hF.trans hw
 clear hs hF' hw
 refine seqR_nil ?_
 refine HT.seq ?_
 refine HT.seq ?_
 refine HT.text (l := ⟨_, true, .raw (.int .i64 (0 : Int))⟩ :: []) (tl := []) (by kernel_rfl) (by kernel_rfl) (by kernel_rfl) ?_ ?_
 ·exact
   Obls.p (fun R' w' hw hs hd => of_assign rfl) <|
   Obls.nil
 intro R w hw hs hF'
 replace h1 := (hs 1 rfl).trans h1
 replace h2 := (hs 2 rfl).trans h2
 replace h5 := (hs 5 rfl).trans h5
 have h6 : R 6 = .int .i64 (0 : Int) := hF' 0 _ _ rfl rfl rfl
 replace f_u2 := f_u2.fr hw
 replace hO := hO.fr hw
 replace hA := hA.fr hw.size
 replace hF := hF.trans hw
 clear hs hF' hw
 refine seqR_nil ?_
 obtain ⟨rl3, q4, hr⟩ := cl_some hr
 replace q4 := q4 rfl
 refine HT.cut0 (fun R w => ∃ A : Av, ∃ (s5 : (List Int)) (wo_5 : Value), rl3 = s5 ∧ AvOK A w ∧ Fr w0 w ∧ (∀ b o, A0 b o → A b o) ∧ IniOK [] A w ∧ R 5 = wo_5 ∧ Rep (eSl (eInt .i64)) A w wo_5 s5) ?_ ?_
 ·refine HT.block ?_
  refine HT.loop (fun k R w => ∃ A : Av, ∃ (y6 : List Int) (y7 : Int) (wl_5 : Value), M_spec_l14Levels_L0 fu p0 p1 k y6 y7 = some rl3 ∧ AvOK A w ∧ Fr w0 w ∧ (∀ b o, A0 b o → A b o) ∧ IniOK [ob (.pointer (some ⟨b2_0, 0, none⟩)) (.box w0.heap.size 62 E_impl_RuleSet p0)] A w ∧ R 1 = .int .i64 p1 ∧ R 2 = (.pointer (some ⟨b2_0, 0, none⟩)) ∧ R 5 = wl_5 ∧ R 6 = .int .i64 y7 ∧ Rep (eSl (eInt .i64)) A w wl_5 y6) fu ⟨_, _, _, u2, q4, hA, hF, hAA, hO, h1, h2, h5, h6, f_u2⟩ ?_
  have hr0 := hr; clear hr q4
  rintro k R w ⟨A, y6, y7, wl_5, hr, hA, hF, hAA, hO, h1, h2, h5, h6, f_wl_5⟩
  rcases k with _ | k
  ·cases (show none = some _ from hr)
  rw [M_spec_l14Levels_L0] at hr
  refine HT.seq ?_
  refine HT.seq ?_
  refine HT.text (l := ⟨_, true, .raw (.int .i64 y7)⟩ :: ⟨_, true, .raw (.pointer (some ⟨b2_0, 0, none⟩))⟩ :: ⟨_, true, .rep (eSl E_impl_Rule) A p0⟩ :: ⟨_, true, .raw (.int .i64 (p0.length : Int))⟩ :: ⟨_, true, .raw (.bool (decide (y7 < (p0.length : Int))))⟩ :: []) (tl := []) (by kernel_rfl) (by kernel_rfl) (by kernel_rfl) ?_ ?_
  ·exact
    Obls.p (fun R' w' hw hs hd => of_move ((hs 6 rfl).trans h6)) <|
    Obls.p (fun R' w' hw hs hd => of_fieldAddr_raw ((hs 2 rfl).trans h2) ff_62_0 Try.sizeOf60 (by decide) rfl) <|
    Obls.p (fun R' w' hw hs hd => by have a0 : R' 11 = (.pointer (some ⟨b2_0, 0, none⟩)) := hd.g 0 rfl; exact (of_load_box ((hO.fr hw).ok 0 _ rfl).1 a0 fl_impl_RuleSet_0 rfl Try.isAgg60 Try.sizeOf60)) <|
    Obls.p (fun R' w' hw hs hd => by have a0 : Rep (eSl E_impl_Rule) A w' (R' 12) p0 := hd.g 0 rfl; exact of_len_sl (aT := #[]) a0 Try.underlying60) <|
    Obls.p (fun R' w' hw hs hd => by have a0 : R' 10 = .int .i64 y7 := hd.g 0 rfl; have a1 : R' 13 = .int .i64 (p0.length : Int) := hd.g 1 rfl; exact of_lss a0 a1) <|
    Obls.nil
  intro R w hw hs hF'
  replace h1 := (hs 1 rfl).trans h1
  replace h2 := (hs 2 rfl).trans h2
  replace h5 := (hs 5 rfl).trans h5
  replace h6 := (hs 6 rfl).trans h6
  have h14 : R 14 = .bool (decide (y7 < (p0.length : Int))) := hF' 4 _ _ rfl rfl rfl
  replace f_wl_5 := f_wl_5.fr hw
  replace hO := hO.fr hw
  replace hA := hA.fr hw.size
  replace hF := hF.trans hw
  clear hs hF' hw
  refine seqR_nil ?_
  refine HT.cond (decide (y7 < (p0.length : Int))) h14 (fun c8 => ?_) (fun c8 => ?_)
  ·have hr := cnd_t c8 hr
   refine HT.skip ?_
   refine HT.seq ?_
   refine HT.block ?_
   refine HT.seq ?_
   refine HT.text (l := ⟨_, true, .raw (.int .i64 (0 : Int))⟩ :: []) (tl := []) (by kernel_rfl) (by kernel_rfl) (by kernel_rfl) ?_ ?_
   ·exact
     Obls.p (fun R' w' hw hs hd => of_assign rfl) <|
     Obls.nil
   intro R w hw hs hF'
   replace h1 := (hs 1 rfl).trans h1
   replace h2 := (hs 2 rfl).trans h2
   replace h5 := (hs 5 rfl).trans h5
   replace h6 := (hs 6 rfl).trans h6
   have h7 : R 7 = .int .i64 (0 : Int) := hF' 0 _ _ rfl rfl rfl
   replace f_wl_5 := f_wl_5.fr hw
   replace hO := hO.fr hw
   replace hA := hA.fr hw.size
   replace hF := hF.trans hw
   clear hs hF' hw
   refine seqR_nil ?_
   obtain ⟨rl9, q10, hr⟩ := cl_some hr
   replace q10 := q10 rfl
   refine HT.cut0 (fun R w => ∃ A : Av, ∃ (s11 : (List Int)) (wo_5 : Value), rl9 = s11 ∧ AvOK A w ∧ Fr w0 w ∧ (∀ b o, A0 b o → A b o) ∧ IniOK [ob (.pointer (some ⟨b2_0, 0, none⟩)) (.box w0.heap.size 62 E_impl_RuleSet p0)] A w ∧ R 1 = .int .i64 p1 ∧ R 2 = (.pointer (some ⟨b2_0, 0, none⟩)) ∧ R 5 = wo_5 ∧ R 6 = .int .i64 y7 ∧ Rep (eSl (eInt .i64)) A w wo_5 s11) ?_ ?_
   ·refine HT.block ?_
    refine HT.loop (fun k R w => ∃ A : Av, ∃ (y12 : List Int) (y13 : Int) (wl_5 : Value), M_spec_l14Levels_L1 fu p0 p1 y7 k y12 y13 = some rl9 ∧ AvOK A w ∧ Fr w0 w ∧ (∀ b o, A0 b o → A b o) ∧ IniOK [ob (.pointer (some ⟨b2_0, 0, none⟩)) (.box w0.heap.size 62 E_impl_RuleSet p0)] A w ∧ R 1 = .int .i64 p1 ∧ R 2 = (.pointer (some ⟨b2_0, 0, none⟩)) ∧ R 5 = wl_5 ∧ R 6 = .int .i64 y7 ∧ R 7 = .int .i64 y13 ∧ Rep (eSl (eInt .i64)) A w wl_5 y12) fu ⟨_, _, _, wl_5, q10, hA, hF, hAA, hO, h1, h2, h5, h6, h7, f_wl_5⟩ ?_
    have hr0 := hr; clear hr q10
    rintro k R w ⟨A, y12, y13, wl_5, hr, hA, hF, hAA, hO, h1, h2, h5, h6, h7, f_wl_5⟩
    rcases k with _ | k
    ·cases (show none = some _ from hr)
    rw [M_spec_l14Levels_L1] at hr
    refine HT.seq ?_
    refine HT.seq ?_
    obtain ⟨e14, hr⟩ := ck_some hr
    refine HT.text (l := ⟨_, true, .raw (.int .i64 y13)⟩ :: ⟨_, true, .raw (.pointer (some ⟨b2_0, 0, none⟩))⟩ :: ⟨_, true, .rep (eSl E_impl_Rule) A p0⟩ :: ⟨_, true, .raw (.int .i64 y7)⟩ :: ⟨_, true, .qtr E_impl_Rule A (gtD p0 y7)⟩ :: ⟨_, true, .qtr (eSl E_impl_Test) A (gtD p0 y7)⟩ :: ⟨_, true, .rep (eSl E_impl_Test) A (gtD p0 y7)⟩ :: ⟨_, true, .raw (.int .i64 ((gtD p0 y7).length : Int))⟩ :: ⟨_, true, .raw (.bool (decide (y13 < ((gtD p0 y7).length : Int))))⟩ :: []) (tl := []) (by kernel_rfl) (by kernel_rfl) (by kernel_rfl) ?_ ?_
    ·exact
      Obls.p (fun R' w' hw hs hd => of_move ((hs 7 rfl).trans h7)) <|
      Obls.p (fun R' w' hw hs hd => of_fieldAddr_raw ((hs 2 rfl).trans h2) ff_62_0 Try.sizeOf60 (by decide) rfl) <|
      Obls.p (fun R' w' hw hs hd => by have a0 : R' 18 = (.pointer (some ⟨b2_0, 0, none⟩)) := hd.g 0 rfl; exact (of_load_box ((hO.fr hw).ok 0 _ rfl).1 a0 fl_impl_RuleSet_0 rfl Try.isAgg60 Try.sizeOf60)) <|
      Obls.p (fun R' w' hw hs hd => of_move ((hs 6 rfl).trans h6)) <|
      Obls.p (fun R' w' hw hs hd => by have a0 : Rep (eSl E_impl_Rule) A w' (R' 19) p0 := hd.g 0 rfl; have a1 : R' 20 = .int .i64 y7 := hd.g 1 rfl; exact of_indexAddr a0 a1 Try.underlying60 Try.sizeOf30 e14) <|
      Obls.p (fun R' w' hw hs hd => by have a0 : QRep E_impl_Rule A w' (R' 21) (gtD p0 y7) := hd.g 0 rfl; exact of_fieldAddr_q a0 ff_30_0 Try.sizeOf28 (by decide) fl_impl_Rule_0 rfl) <|
      Obls.p (fun R' w' hw hs hd => by have a0 : QRep (eSl E_impl_Test) A w' (R' 22) (gtD p0 y7) := hd.g 0 rfl; exact (of_load a0.ptr Try.isAgg28 Try.sizeOf28)) <|
      Obls.p (fun R' w' hw hs hd => by have a0 : Rep (eSl E_impl_Test) A w' (R' 23) (gtD p0 y7) := hd.g 0 rfl; exact of_len_sl (aT := #[]) a0 Try.underlying28) <|
      Obls.p (fun R' w' hw hs hd => by have a0 : R' 17 = .int .i64 y13 := hd.g 0 rfl; have a1 : R' 24 = .int .i64 ((gtD p0 y7).length : Int) := hd.g 1 rfl; exact of_lss a0 a1) <|
      Obls.nil
    intro R w hw hs hF'
    replace h1 := (hs 1 rfl).trans h1
    replace h2 := (hs 2 rfl).trans h2
    replace h5 := (hs 5 rfl).trans h5
    replace h6 := (hs 6 rfl).trans h6
    replace h7 := (hs 7 rfl).trans h7
    have h25 : R 25 = .bool (decide (y13 < ((gtD p0 y7).length : Int))) := hF' 8 _ _ rfl rfl rfl
    replace f_wl_5 := f_wl_5.fr hw
    replace hO := hO.fr hw
    replace hA := hA.fr hw.size
    replace hF := hF.trans hw
    clear hs hF' hw
    refine seqR_nil ?_
    refine HT.cond (decide (y13 < ((gtD p0 y7).length : Int))) h25 (fun c15 => ?_) (fun c15 => ?_)
    ·have hr := cnd_t c15 hr
     refine HT.skip ?_
     refine HT.seq ?_
     refine HT.block ?_
     refine HT.seq ?_
     obtain ⟨e16, hr⟩ := ck_some hr
     obtain ⟨e17, hr⟩ := ck_some hr
     refine HT.textR [ob (.pointer (some ⟨b2_0, 0, none⟩)) (.box w0.heap.size 62 E_impl_RuleSet p0)] (⟨_, true, [], none, true, fun A => .raw (.pointer (some ⟨b2_0, 0, none⟩))⟩ :: ⟨_, true, [], none, true, fun A => .rep (eSl E_impl_Rule) A p0⟩ :: ⟨_, true, [], none, true, fun A => .raw (.int .i64 y7)⟩ :: ⟨_, true, [], none, true, fun A => .qtr E_impl_Rule A (gtD p0 y7)⟩ :: ⟨_, true, [], none, true, fun A => .qtr (eSl E_impl_Test) A (gtD p0 y7)⟩ :: ⟨_, true, [], none, true, fun A => .rep (eSl E_impl_Test) A (gtD p0 y7)⟩ :: ⟨_, true, [], none, true, fun A => .raw (.int .i64 y13)⟩ :: ⟨_, true, [], none, true, fun A => .qtr E_impl_Test A (gtD (gtD p0 y7) y13)⟩ :: ⟨_, true, [], none, true, fun A => .rep E_impl_Test A (gtD (gtD p0 y7) y13)⟩ :: ⟨_, true, [], some (.box w0.heap.size 85 E_impl_Test ((0 : Int), ((0 : Int), false))), true, fun A => .any⟩ :: ⟨_, true, [10], some (.box w0.heap.size 85 E_impl_Test (gtD (gtD p0 y7) y13)), false, fun A => .any⟩ :: []) (by kernel_rfl) (by kernel_rfl) (Wf.mk' (by kernel_rfl) (UAll.cons ust_raw (UAll.cons ust_rep (UAll.cons ust_raw (UAll.cons ust_qtr (UAll.cons ust_qtr (UAll.cons ust_rep (UAll.cons ust_raw (UAll.cons ust_qtr (UAll.cons ust_rep (UAll.cons ust_any (UAll.cons ust_any (UAll.nil)))))))))))) (by kernel_rfl) (by kernel_rfl)) hO hA ?_ ?_
     ·exact
       OblsR.p (fun A' R' w' ho hd => of_fieldAddr_raw ((ho.old 2 rfl).trans h2) ff_62_0 Try.sizeOf60 (by decide) rfl) <|
       OblsR.p (fun A' R' w' ho hd => by have a0 : R' 28 = (.pointer (some ⟨b2_0, 0, none⟩)) := hd.g 0 rfl; exact (of_load_box (ho.rd 0 _ rfl rfl) a0 fl_impl_RuleSet_0 rfl Try.isAgg60 Try.sizeOf60)) <|
       OblsR.p (fun A' R' w' ho hd => of_move ((ho.old 6 rfl).trans h6)) <|
       OblsR.p (fun A' R' w' ho hd => by have a0 : Rep (eSl E_impl_Rule) A' w' (R' 29) p0 := hd.g 0 rfl; have a1 : R' 30 = .int .i64 y7 := hd.g 1 rfl; exact of_indexAddr a0 a1 Try.underlying60 Try.sizeOf30 e16) <|
       OblsR.p (fun A' R' w' ho hd => by have a0 : QRep E_impl_Rule A' w' (R' 31) (gtD p0 y7) := hd.g 0 rfl; exact of_fieldAddr_q a0 ff_30_0 Try.sizeOf28 (by decide) fl_impl_Rule_0 rfl) <|
       OblsR.p (fun A' R' w' ho hd => by have a0 : QRep (eSl E_impl_Test) A' w' (R' 32) (gtD p0 y7) := hd.g 0 rfl; exact (of_load a0.ptr Try.isAgg28 Try.sizeOf28)) <|
       OblsR.p (fun A' R' w' ho hd => of_move ((ho.old 7 rfl).trans h7)) <|
       OblsR.p (fun A' R' w' ho hd => by have a0 : Rep (eSl E_impl_Test) A' w' (R' 33) (gtD p0 y7) := hd.g 0 rfl; have a1 : R' 34 = .int .i64 y13 := hd.g 1 rfl; exact of_indexAddr a0 a1 Try.underlying28 Try.sizeOf85 e17) <|
       OblsR.p (fun A' R' w' ho hd => by have a0 : QRep E_impl_Test A' w' (R' 35) (gtD (gtD p0 y7) y13) := hd.g 0 rfl; exact (of_load a0.ptr Try.isAgg85 Try.sizeOf85)) <|
       OblsR.cons (OblR.made _ rfl rfl rfl rfl fun A' R' w' ho hd => by exact made_alloc Try.zeroValue85 (fun A w => rep_pr rep1_int (rep_pr rep1_int rep1_bool)) (Nat.le_trans hF.size ho.ch.size)) <|
       OblsR.cons (OblR.took 10 _ _ rfl rfl rfl rfl rfl fun A' R' w' ho hd u hok hav hin hop hds => by have a1 : Rep E_impl_Test A' w' (R' 36) (gtD (gtD p0 y7) y13) := hd.g 1 rfl; obtain ⟨b, hb, hB', hbx⟩ := hok; have hop' := hop _ _ rfl rfl rfl rfl; exact took_store a1 (hop'.symm.trans hb) hb ⟨b, hb, hB', hbx⟩ hav (FldS.id _) Try.sizeOf85 rfl) <|
       OblsR.nil
     intro done ρ σ A R w hdn hI
     replace h1 : R 1 = .int .i64 p1 := (hI.reg rfl).trans h1
     replace h2 : R 2 = (.pointer (some ⟨b2_0, 0, none⟩)) := (hI.reg rfl).trans h2
     replace h5 : R 5 = wl_5 := (hI.reg rfl).trans h5
     replace h6 : R 6 = .int .i64 y7 := (hI.reg rfl).trans h6
     replace h7 : R 7 = .int .i64 y13 := (hI.reg rfl).trans h7
     have z18 := hI.inivR 0 rfl
     obtain ⟨b8_18, e_b8_18⟩ := hI.boxv hdn 11 rfl rfl
     have z20 := (hI.opnR hdn 11 10 rfl rfl rfl rfl rfl).symm.trans e_b8_18
     have h8 : R 8 = (.pointer (some ⟨b8_18, 0, none⟩)) := (hI.opvR hdn 10 9 rfl rfl rfl rfl rfl).symm.trans z20
     replace f_wl_5 := f_wl_5.stp hI.stp
     replace hAA := hI.low' hAA hA0 (hO.ge (⟨rfl, trivial⟩))
     replace hF : Fr w0 w := hF.tr hI.ch (hO.ge (⟨rfl, trivial⟩))
     replace hO : IniOK [ob (.pointer (some ⟨b2_0, 0, none⟩)) (.box w0.heap.size 62 E_impl_RuleSet p0), ob (.pointer (some ⟨b8_18, 0, none⟩)) (.box w0.heap.size 85 E_impl_Test (gtD (gtD p0 y7) y13))] A w := hI.left hdn [(0, ob (.pointer (some ⟨b2_0, 0, none⟩)) (.box w0.heap.size 62 E_impl_RuleSet p0)), (11, ob (.pointer (some ⟨b8_18, 0, none⟩)) (.box w0.heap.size 85 E_impl_Test (gtD (gtD p0 y7) y13)))] ⟨rfl, rfl, z18, rfl, rfl, ⟨rfl, rfl, e_b8_18, rfl, rfl, trivial⟩⟩
     replace hA := hI.avok
     clear hI
     refine HT.seq ?_
     refine HT.text (l := ⟨_, true, .raw (.pointer (some ⟨b8_18, 0, none⟩))⟩ :: ⟨_, true, .raw (.int .i64 ((gtD (gtD p0 y7) y13).1))⟩ :: ⟨_, true, .raw (.int .i64 p1)⟩ :: ⟨_, true, .raw (.bool (((gtD (gtD p0 y7) y13).1) == p1))⟩ :: []) (tl := []) (by kernel_rfl) (by kernel_rfl) (by kernel_rfl) ?_ ?_
     ·exact
       Obls.p (fun R' w' hw hs hd => of_fieldAddr_raw ((hs 8 rfl).trans h8) ff_85_0 Try.sizeOf3 (by decide) rfl) <|
       Obls.p (fun R' w' hw hs hd => by have a0 : R' 37 = (.pointer (some ⟨b8_18, 0, none⟩)) := hd.g 0 rfl; exact OpF.int (of_load_box ((hO.fr hw).ok 1 _ rfl).1 a0 fl_impl_Test_0 rfl Try.isAgg3 Try.sizeOf3)) <|
       Obls.p (fun R' w' hw hs hd => of_move ((hs 1 rfl).trans h1)) <|
       Obls.p (fun R' w' hw hs hd => by have a0 : R' 38 = .int .i64 ((gtD (gtD p0 y7) y13).1) := hd.g 0 rfl; have a1 : R' 39 = .int .i64 p1 := hd.g 1 rfl; exact of_eql a0 a1) <|
       Obls.nil
     intro R w hw hs hF'
     replace h1 := (hs 1 rfl).trans h1
     replace h2 := (hs 2 rfl).trans h2
     replace h5 := (hs 5 rfl).trans h5
     replace h6 := (hs 6 rfl).trans h6
     replace h7 := (hs 7 rfl).trans h7
     replace h8 := (hs 8 rfl).trans h8
     have h40 : R 40 = .bool (((gtD (gtD p0 y7) y13).1) == p1) := hF' 3 _ _ rfl rfl rfl
     replace f_wl_5 := f_wl_5.fr hw
     replace hO := hO.fr hw
     replace hA := hA.fr hw.size
     replace hF := hF.trans hw
     clear hs hF' hw
     refine seqR_nil ?_
     refine HT.cond (((gtD (gtD p0 y7) y13).1) == p1) h40 (fun c21 => ?_) (fun c21 => ?_)
     ·have hr := cnd_t c21 hr
      obtain ⟨x22, q23, hr⟩ := cl_some hr
      refine HT.text (l := ⟨_, true, .raw wl_5⟩ :: ⟨_, true, .raw (.pointer (some ⟨b8_18, 1, none⟩))⟩ :: ⟨_, true, .raw (.int .i64 ((gtD (gtD p0 y7) y13).2.1))⟩ :: ⟨_, true, .rep (eSl (eInt .i64)) A x22⟩ :: ⟨_, true, .rep (eSl (eInt .i64)) A x22⟩ :: []) (tl := []) (by kernel_rfl) (by kernel_rfl) (by kernel_rfl) ?_ ?_
      ·exact
        Obls.p (fun R' w' hw hs hd => of_move ((hs 5 rfl).trans h5)) <|
        Obls.p (fun R' w' hw hs hd => of_fieldAddr_raw ((hs 8 rfl).trans h8) ff_85_1 Try.sizeOf3 (by decide) rfl) <|
        Obls.p (fun R' w' hw hs hd => by have a0 : R' 42 = (.pointer (some ⟨b8_18, 1, none⟩)) := hd.g 0 rfl; exact OpF.int (of_load_box ((hO.fr hw).ok 1 _ rfl).1 a0 fl_impl_Test_1 rfl Try.isAgg3 Try.sizeOf3)) <|
        Obls.p (fun R' w' hw hs hd => by have a0 : R' 41 = wl_5 := hd.g 0 rfl; have ra0 := (f_wl_5.fr hw).eq a0; have a1 : R' 43 = .int .i64 ((gtD (gtD p0 y7) y13).2.1) := hd.g 1 rfl; exact of_call Try.call115 (M_spec_l14Put_ok (q23 rfl) (hA.fr hw.size) ra0 a1)) <|
        Obls.p (fun R' w' hw hs hd => by have a0 : Rep (eSl (eInt .i64)) A w' (R' 44) x22 := hd.g 0 rfl; exact of_assign a0) <|
        Obls.nil
      intro R w hw hs hF'
      replace h1 := (hs 1 rfl).trans h1
      replace h2 := (hs 2 rfl).trans h2
      replace h6 := (hs 6 rfl).trans h6
      replace h7 := (hs 7 rfl).trans h7
      obtain ⟨u24, h5, f_u24⟩ : ∃ u, R 5 = u ∧ Rep (eSl (eInt .i64)) A w u x22 := ⟨_, rfl, hF' 4 _ _ rfl rfl rfl⟩
      replace hO := hO.fr hw
      replace hO : IniOK [ob (.pointer (some ⟨b2_0, 0, none⟩)) (.box w0.heap.size 62 E_impl_RuleSet p0)] A w := hO.sub [(0, ob (.pointer (some ⟨b2_0, 0, none⟩)) (.box w0.heap.size 62 E_impl_RuleSet p0))] ⟨rfl, rfl, trivial⟩
      replace hA := hA.fr hw.size
      replace hF := hF.trans hw
      clear hs hF' hw
      refine seqR_nil ?_
      obtain ⟨e25, hr⟩ := ck_some hr
      refine HT.text (l := ⟨_, true, .raw (.int .i64 y13)⟩ :: ⟨_, true, .raw (.int .i64 (y13 + (1 : Int)))⟩ :: ⟨_, true, .raw (.int .i64 (y13 + (1 : Int)))⟩ :: []) (tl := []) (by kernel_rfl) (by kernel_rfl) (by kernel_rfl) ?_ ?_
      ·exact
        Obls.p (fun R' w' hw hs hd => of_move ((hs 7 rfl).trans h7)) <|
        Obls.p (fun R' w' hw hs hd => by have a0 : R' 26 = .int .i64 y13 := hd.g 0 rfl; exact of_add a0 rfl e25) <|
        Obls.p (fun R' w' hw hs hd => by have a0 : R' 27 = .int .i64 (y13 + (1 : Int)) := hd.g 0 rfl; exact of_assign a0) <|
        Obls.nil
      intro R w hw hs hF'
      replace h1 := (hs 1 rfl).trans h1
      replace h2 := (hs 2 rfl).trans h2
      replace h5 := (hs 5 rfl).trans h5
      replace h6 := (hs 6 rfl).trans h6
      have h7 : R 7 = .int .i64 (y13 + (1 : Int)) := hF' 2 _ _ rfl rfl rfl
      replace f_u24 := f_u24.fr hw
      replace hO := hO.fr hw
      replace hA := hA.fr hw.size
      replace hF := hF.trans hw
      clear hs hF' hw
      refine seqR_nil ?_
      exact Exists.intro k (And.intro (Nat.lt_succ_self k) ⟨_, _, _, u24, hr, hA, hF, hAA, hO, h1, h2, h5, h6, h7, f_u24⟩)
     ·have hr := cnd_f c21 hr
      refine HT.skip ?_
      obtain ⟨e26, hr⟩ := ck_some hr
      refine HT.text (l := ⟨_, true, .raw (.int .i64 y13)⟩ :: ⟨_, true, .raw (.int .i64 (y13 + (1 : Int)))⟩ :: ⟨_, true, .raw (.int .i64 (y13 + (1 : Int)))⟩ :: []) (tl := []) (by kernel_rfl) (by kernel_rfl) (by kernel_rfl) ?_ ?_
      ·exact
        Obls.p (fun R' w' hw hs hd => of_move ((hs 7 rfl).trans h7)) <|
        Obls.p (fun R' w' hw hs hd => by have a0 : R' 26 = .int .i64 y13 := hd.g 0 rfl; exact of_add a0 rfl e26) <|
        Obls.p (fun R' w' hw hs hd => by have a0 : R' 27 = .int .i64 (y13 + (1 : Int)) := hd.g 0 rfl; exact of_assign a0) <|
        Obls.nil
      intro R w hw hs hF'
      replace h1 := (hs 1 rfl).trans h1
      replace h2 := (hs 2 rfl).trans h2
      replace h5 := (hs 5 rfl).trans h5
      replace h6 := (hs 6 rfl).trans h6
      have h7 : R 7 = .int .i64 (y13 + (1 : Int)) := hF' 2 _ _ rfl rfl rfl
      replace f_wl_5 := f_wl_5.fr hw
      replace hO := hO.fr hw
      replace hO : IniOK [ob (.pointer (some ⟨b2_0, 0, none⟩)) (.box w0.heap.size 62 E_impl_RuleSet p0)] A w := hO.sub [(0, ob (.pointer (some ⟨b2_0, 0, none⟩)) (.box w0.heap.size 62 E_impl_RuleSet p0))] ⟨rfl, rfl, trivial⟩
      replace hA := hA.fr hw.size
      replace hF := hF.trans hw
      clear hs hF' hw
      refine seqR_nil ?_
      exact Exists.intro k (And.intro (Nat.lt_succ_self k) ⟨_, _, _, wl_5, hr, hA, hF, hAA, hO, h1, h2, h5, h6, h7, f_wl_5⟩)
    ·have hr := cnd_f c15 hr
     refine HT.exit ?_
     obtain rfl := Option.some.inj hr
     exact Exists.intro _ ⟨_, wl_5, rfl, hA, hF, hAA, hO, h1, h2, h5, h6, f_wl_5⟩
   rintro R w ⟨A, s11, wo_5, es, hA, hF, hAA, hO, h1, h2, h5, h6, f_wo_5⟩
   obtain rfl := es.symm
   obtain ⟨e27, hr⟩ := ck_some hr
   refine HT.text (l := ⟨_, true, .raw (.int .i64 y7)⟩ :: ⟨_, true, .raw (.int .i64 (y7 + (1 : Int)))⟩ :: ⟨_, true, .raw (.int .i64 (y7 + (1 : Int)))⟩ :: []) (tl := []) (by kernel_rfl) (by kernel_rfl) (by kernel_rfl) ?_ ?_
   ·exact
     Obls.p (fun R' w' hw hs hd => of_move ((hs 6 rfl).trans h6)) <|
     Obls.p (fun R' w' hw hs hd => by have a0 : R' 15 = .int .i64 y7 := hd.g 0 rfl; exact of_add a0 rfl e27) <|
     Obls.p (fun R' w' hw hs hd => by have a0 : R' 16 = .int .i64 (y7 + (1 : Int)) := hd.g 0 rfl; exact of_assign a0) <|
     Obls.nil
   intro R w hw hs hF'
   replace h1 := (hs 1 rfl).trans h1
   replace h2 := (hs 2 rfl).trans h2
   replace h5 := (hs 5 rfl).trans h5
   have h6 : R 6 = .int .i64 (y7 + (1 : Int)) := hF' 2 _ _ rfl rfl rfl
   replace f_wo_5 := f_wo_5.fr hw
   replace hO := hO.fr hw
   replace hA := hA.fr hw.size
   replace hF := hF.trans hw
   clear hs hF' hw
   refine seqR_nil ?_
   exact Exists.intro k (And.intro (Nat.lt_succ_self k) ⟨_, _, _, wo_5, hr, hA, hF, hAA, hO, h1, h2, h5, h6, f_wo_5⟩)
  ·have hr := cnd_f c8 hr
   refine HT.exit ?_
   obtain rfl := Option.some.inj hr
   replace hO : IniOK [] A w := hO.sub [] trivial
   exact Exists.intro _ ⟨_, wl_5, rfl, hA, hF, hAA, hO, h5, f_wl_5⟩
 rintro R w ⟨A, s5, wo_5, es, hA, hF, hAA, hO, h5, f_wo_5⟩
 obtain rfl := es.symm
 refine HT.seq ?_
 refine HT.text (l := ⟨_, true, .raw wo_5⟩ :: ⟨_, true, .raw wo_5⟩ :: []) (tl := []) (by kernel_rfl) (by kernel_rfl) (by kernel_rfl) ?_ ?_
 ·exact
   Obls.p (fun R' w' hw hs hd => of_move ((hs 5 rfl).trans h5)) <|
   Obls.p (fun R' w' hw hs hd => by have a0 : R' 45 = wo_5 := hd.g 0 rfl; exact of_assign a0) <|
   Obls.nil
 intro R w hw hs hF'
 have h4 : R 4 = wo_5 := hF' 1 _ _ rfl rfl rfl
 replace f_wo_5 := f_wo_5.fr hw
 replace hO := hO.fr hw
 replace hA := hA.fr hw.size
 replace hF := hF.trans hw
 clear hs hF' hw
 refine seqR_nil ?_
 refine HT.ret ?_
 obtain rfl := Option.some.inj hr
 exact ⟨.inr rfl, [R 4], ⟨rfl, trivial⟩, (f_wo_5.eq h4).down hAA, hF⟩
def M_spec_DiagramVariables_L1 (fu : Nat) (y7 : Int) (x14 : List Int) : Nat → Int → (List T_impl_Test) → Option (List T_impl_Test)
 | 0, _, _ => none
 | k + 1, y20, y21 =>
  bif (decide (y20 < (x14.length : Int))) then (
   ck (inR y20 x14.length) <|
   ck (lenOK (y21.length + ([(y7, (gtD x14 y20), false)] : List T_impl_Test).length)) <|
   ck (i64B (y20 + (1 : Int))) <|
   M_spec_DiagramVariables_L1 fu y7 x14 k (y20 + (1 : Int)) (y21 ++ ([(y7, (gtD x14 y20), false)] : List T_impl_Test))
  ) else (
   some y21
  )
def M_spec_DiagramVariables_L0 (fu : Nat) (p0 : T_impl_RuleSet) : Nat → Int → (List T_impl_Test) → Option (List T_impl_Test)
 | 0, _, _ => none
 | k + 1, y7, y8 =>
  cl (true && ((decide (y7 < (6 : Int))) == true)) (M_spec_IsValidRules fu p0) fun x9 =>
  bd ((decide (y7 < (6 : Int))) && x9) fun x11 =>
  bif x11 then (
   cl true (M_spec_l14Levels fu p0 y7) fun x14 =>
   cl true (M_spec_DiagramVariables_L1 fu y7 x14 fu (1 : Int) y8) fun s19 =>
   ck (i64B (y7 + (1 : Int))) <|
   M_spec_DiagramVariables_L0 fu p0 k (y7 + (1 : Int)) s19
  ) else (
   some y8
  )
def M_spec_DiagramVariables (fu : Nat) (p0 : T_impl_RuleSet) : Option (List T_impl_Test) :=
 cl true (M_spec_DiagramVariables_L0 fu p0 fu (0 : Int) ([] : List T_impl_Test)) fun s6 =>
 some s6
set_option linter.unusedSimpArgs false in
theorem M_spec_DiagramVariables_ok {fu : Nat} {A0 : Av} {p0 : T_impl_RuleSet} {r : List T_impl_Test} (hr : M_spec_DiagramVariables fu p0 = some r) {w : World} {v0 : Value} (hA : AvOK A0 w) (h0 : Rep E_impl_RuleSet A0 w v0 p0) :
  Calls Try.prog 45 #[v0] w fun e w' => ∃ v, e = .returned v ∧ ((Res.vec w.heap.size 85 E_impl_Test r).ok (addA A0 v) v w' ∧ Fr w w') := by
 unfold M_spec_DiagramVariables at hr
 obtain ⟨w0, hw0⟩ : ∃ w0, w0 = w := ⟨_, rfl⟩
 have hF : Fr w0 w := hw0 ▸ Fr.refl _
 have hA0 : ∀ b o, A0 b o → b < w0.heap.size := fun b o h => hw0 ▸ hA b o h
 have hA00 : AvOK A0 w0 := hA0
 rw [show w.heap.size = w0.heap.size from hw0 ▸ rfl]
 rw [show Fr w = Fr w0 from hw0 ▸ rfl]
 clear hw0
 obtain ⟨A, hAe⟩ : ∃ A, A = A0 := ⟨_, rfl⟩
 have hAA : ∀ b o, A0 b o → A b o := fun b o h => hAe ▸ h
 replace hA : AvOK A w := hAe ▸ hA
 have hO : IniOK [] A w := IniOK.nil
 refine calls_of_HT2 [.tmp 2] Try.func45 Try.ntmps45 (by decide) rfl rfl (Nat.le_of_ble_eq_true rfl) ?_
 intro R hR
 have f_v0 : Rep E_impl_RuleSet A w v0 p0 := hAe ▸ h0
 replace h0 : R 0 = v0 := hR 0 _ rfl
 clear hR hAe
 refine HT.seq ?_
 refine HT.textR [] (⟨_, true, [], some (.box w0.heap.size 62 E_impl_RuleSet p0), true, fun A => .any⟩ :: ⟨_, true, [], none, true, fun A => .any⟩ :: []) (by kernel_rfl) (by kernel_rfl) (Wf.mk' (by kernel_rfl) (UAll.cons ust_any (UAll.cons ust_any (UAll.nil))) (by kernel_rfl) (by kernel_rfl)) hO hA ?_ ?_
 ·exact
   OblsR.cons (OblR.made _ rfl rfl rfl rfl fun A' R' w' ho hd => by have a0 : R' 0 = v0 := (ho.old 0 rfl).trans h0; have ra0 := (f_v0.stp ho.stp).eq a0; exact made_box ra0 (Nat.le_trans hF.size ho.ch.size)) <|
   OblsR.p (fun A' R' w' ho hd => of_assign trivial) <|
   OblsR.nil
 intro done ρ σ A R w hdn hI
 obtain ⟨b1_0, e_b1_0⟩ := hI.boxv hdn 0 rfl rfl
 have h1 : R 1 = (.pointer (some ⟨b1_0, 0, none⟩)) := (hI.opvR hdn 0 0 rfl rfl rfl rfl rfl).symm.trans e_b1_0
 replace hAA := hI.low' hAA hA0 (hO.ge (trivial))
 replace hF : Fr w0 w := hF.tr hI.ch (hO.ge (trivial))
 replace hO : IniOK [ob (.pointer (some ⟨b1_0, 0, none⟩)) (.box w0.heap.size 62 E_impl_RuleSet p0)] A w := hI.left hdn [(0, ob (.pointer (some ⟨b1_0, 0, none⟩)) (.box w0.heap.size 62 E_impl_RuleSet p0))] ⟨rfl, rfl, e_b1_0, rfl, rfl, trivial⟩
 replace hA := hI.avok
 clear hI
 refine HT.seq ?_
 refine HT.textR [ob (.pointer (some ⟨b1_0, 0, none⟩)) (.box w0.heap.size 62 E_impl_RuleSet p0)] (⟨_, true, [], some (.vec w0.heap.size 85 E_impl_Test ([] : List T_impl_Test)), true, fun A => .any⟩ :: ⟨_, true, [1], some (.vec w0.heap.size 85 E_impl_Test ([] : List T_impl_Test)), true, fun A => .any⟩ :: []) (by kernel_rfl) (by kernel_rfl) (Wf.mk' (by kernel_rfl) (UAll.cons ust_any (UAll.cons ust_any (UAll.nil))) (by kernel_rfl) (by kernel_rfl)) hO hA ?_ ?_
 ·exact
   OblsR.cons (OblR.made _ rfl rfl rfl rfl fun A' R' w' ho hd => by exact made_build [] (E := E_impl_Test) trivial Try.underlying28 Try.sizeOf85 Try.zeroValue85 rfl rfl rfl (Nat.le_trans hF.size ho.ch.size)) <|
   OblsR.cons (OblR.took 1 _ _ rfl rfl rfl rfl rfl fun A' R' w' ho hd u hok hav hin hop hds => by exact took_assign (hop _ _ rfl rfl rfl rfl).symm hok hav) <|
   OblsR.nil
 intro done ρ σ A R w hdn hI
 replace h1 : R 1 = (.pointer (some ⟨b1_0, 0, none⟩)) := (hI.reg rfl).trans h1
 have z2 := hI.inivR 0 rfl
 obtain ⟨u3, e_u3⟩ : ∃ u, ρ 2 = u := ⟨_, rfl⟩
 have h3 : R 3 = u3 := (hI.opvR hdn 2 1 rfl rfl rfl rfl rfl).symm.trans e_u3
 replace hAA := hI.low' hAA hA0 (hO.ge (⟨rfl, trivial⟩))
 replace hF : Fr w0 w := hF.tr hI.ch (hO.ge (⟨rfl, trivial⟩))
 replace hO : IniOK [ob (.pointer (some ⟨b1_0, 0, none⟩)) (.box w0.heap.size 62 E_impl_RuleSet p0), ob u3 (.vec w0.heap.size 85 E_impl_Test ([] : List T_impl_Test))] A w := hI.left hdn [(0, ob (.pointer (some ⟨b1_0, 0, none⟩)) (.box w0.heap.size 62 E_impl_RuleSet p0)), (2, ob u3 (.vec w0.heap.size 85 E_impl_Test ([] : List T_impl_Test)))] ⟨rfl, rfl, z2, rfl, rfl, ⟨rfl, rfl, e_u3, rfl, rfl, trivial⟩⟩
 replace hA := hI.avok
 clear hI
 refine HT.seq ?_
 refine HT.seq ?_
 refine HT.text (l := ⟨_, true, .raw (.int .i64 (0 : Int))⟩ :: []) (tl := []) (by kernel_rfl) (by kernel_rfl) (by kernel_rfl) ?_ ?_
 ·exact
   Obls.p (fun R' w' hw hs hd => of_assign rfl) <|
   Obls.nil
 intro R w hw hs hF'
 replace h1 := (hs 1 rfl).trans h1
 replace h3 := (hs 3 rfl).trans h3
 have h4 : R 4 = .int .i64 (0 : Int) := hF' 0 _ _ rfl rfl rfl
 replace hO := hO.fr hw
 replace hA := hA.fr hw.size
 replace hF := hF.trans hw
 clear hs hF' hw
 refine seqR_nil ?_
 obtain ⟨rl4, q5, hr⟩ := cl_some hr
 replace q5 := q5 rfl
 refine HT.cut0 (fun R w => ∃ A : Av, ∃ (s6 : (List T_impl_Test)) (uo_u3 : Value), rl4 = s6 ∧ AvOK A w ∧ Fr w0 w ∧ (∀ b o, A0 b o → A b o) ∧ IniOK [ob uo_u3 (.vec w0.heap.size 85 E_impl_Test s6)] A w ∧ R 3 = uo_u3) ?_ ?_
 ·refine HT.block ?_
  refine HT.loop (fun k R w => ∃ A : Av, ∃ (y7 : Int) (y8 : List T_impl_Test) (ul_u3 : Value), M_spec_DiagramVariables_L0 fu p0 k y7 y8 = some rl4 ∧ AvOK A w ∧ Fr w0 w ∧ (∀ b o, A0 b o → A b o) ∧ IniOK [ob (.pointer (some ⟨b1_0, 0, none⟩)) (.box w0.heap.size 62 E_impl_RuleSet p0), ob ul_u3 (.vec w0.heap.size 85 E_impl_Test y8)] A w ∧ R 1 = (.pointer (some ⟨b1_0, 0, none⟩)) ∧ R 3 = ul_u3 ∧ R 4 = .int .i64 y7) fu ⟨_, _, _, u3, q5, hA, hF, hAA, hO, h1, h3, h4⟩ ?_
  have hr0 := hr; clear hr q5
  rintro k R w ⟨A, y7, y8, ul_u3, hr, hA, hF, hAA, hO, h1, h3, h4⟩
  rcases k with _ | k
  ·cases (show none = some _ from hr)
  rw [M_spec_DiagramVariables_L0] at hr
  refine HT.seq ?_
  refine HT.seq ?_
  obtain ⟨x9, q10, hr⟩ := cl_some hr
  obtain ⟨x11, q12, hr⟩ := bd_some hr
  refine HT.text (l := ⟨_, true, .raw (.int .i64 y7)⟩ :: ⟨_, true, .raw (.bool (decide (y7 < (6 : Int))))⟩ :: ⟨_, true, .raw (.bool (decide (y7 < (6 : Int))))⟩ :: ⟨_, (true && ((decide (y7 < (6 : Int))) == true)), .rep E_impl_RuleSet A p0⟩ :: ⟨_, (true && ((decide (y7 < (6 : Int))) == true)), .raw (.bool x9)⟩ :: ⟨_, true, .raw (.bool x11)⟩ :: []) (tl := []) (by kernel_rfl) (by kernel_rfl) (by kernel_rfl) ?_ ?_
  ·exact
    Obls.p (fun R' w' hw hs hd => of_move ((hs 4 rfl).trans h4)) <|
    Obls.p (fun R' w' hw hs hd => by have a0 : R' 8 = .int .i64 y7 := hd.g 0 rfl; exact of_lss a0 rfl) <|
    Obls.p (fun R' w' hw hs hd => by have a0 : R' 9 = .bool (decide (y7 < (6 : Int))) := hd.g 0 rfl; exact of_move a0) <|
    Obls.cons (Obl.grd 2 true _ _ _ rfl rfl rfl rfl rfl (by kernel_rfl) fun hg R' w' hw hs hd => by have a0 : R' 1 = (.pointer (some ⟨b1_0, 0, none⟩)) := (hs 1 rfl).trans h1; exact (of_load_box ((hO.fr hw).ok 0 _ rfl).1 a0 (Fld.id _) rfl Try.isAgg62 Try.sizeOf62)) <|
    Obls.cons (Obl.grd 2 true _ _ _ rfl rfl rfl rfl rfl (by kernel_rfl) fun hg R' w' hw hs hd => by have a0 : Rep E_impl_RuleSet A w' (R' 11) p0 := hd 0 _ _ _ rfl rfl rfl rfl hg; exact of_call Try.call33 (M_spec_IsValidRules_ok (q10 hg) (hA.fr hw.size) a0)) <|
    Obls.p (fun R' w' hw hs hd => by have a0 : R' 10 = .bool (decide (y7 < (6 : Int))) := hd.g 0 rfl; exact of_pick (decide (y7 < (6 : Int))) a0 (fun hc => by have a1 : R' 12 = .bool x9 := hd 1 _ _ _ rfl rfl rfl rfl (g_and rfl (beq_of hc)); show _ = Value.bool x11; rw [q12, hc]; exact a1) (fun hc => by show _ = Value.bool x11; rw [q12, hc]; exact rfl)) <|
    Obls.nil
  intro R w hw hs hF'
  replace h1 := (hs 1 rfl).trans h1
  replace h3 := (hs 3 rfl).trans h3
  replace h4 := (hs 4 rfl).trans h4
  have h13 : R 13 = .bool x11 := hF' 5 _ _ rfl rfl rfl
  replace hO := hO.fr hw
  replace hA := hA.fr hw.size
  replace hF := hF.trans hw
  clear hs hF' hw
  refine seqR_nil ?_
  refine HT.cond x11 h13 (fun c13 => ?_) (fun c13 => ?_)
  ·have hr := cnd_t c13 hr
   refine HT.skip ?_
   refine HT.seq ?_
   refine HT.block ?_
   refine HT.seq ?_
   obtain ⟨x14, q15, hr⟩ := cl_some hr
   refine HT.text (l := ⟨_, true, .rep E_impl_RuleSet A p0⟩ :: ⟨_, true, .raw (.int .i64 y7)⟩ :: ⟨_, true, .rep (eSl (eInt .i64)) A x14⟩ :: ⟨_, true, .rep (eSl (eInt .i64)) A x14⟩ :: []) (tl := []) (by kernel_rfl) (by kernel_rfl) (by kernel_rfl) ?_ ?_
   ·exact
     Obls.p (fun R' w' hw hs hd => (of_load_box ((hO.fr hw).ok 0 _ rfl).1 ((hs 1 rfl).trans h1) (Fld.id _) rfl Try.isAgg62 Try.sizeOf62)) <|
     Obls.p (fun R' w' hw hs hd => of_move ((hs 4 rfl).trans h4)) <|
     Obls.p (fun R' w' hw hs hd => by have a0 : Rep E_impl_RuleSet A w' (R' 16) p0 := hd.g 0 rfl; have a1 : R' 17 = .int .i64 y7 := hd.g 1 rfl; exact of_call Try.call91 (M_spec_l14Levels_ok (q15 rfl) (hA.fr hw.size) a0 a1)) <|
     Obls.p (fun R' w' hw hs hd => by have a0 : Rep (eSl (eInt .i64)) A w' (R' 18) x14 := hd.g 0 rfl; exact of_assign a0) <|
     Obls.nil
   intro R w hw hs hF'
   replace h1 := (hs 1 rfl).trans h1
   replace h3 := (hs 3 rfl).trans h3
   replace h4 := (hs 4 rfl).trans h4
   obtain ⟨u16, h5, f_u16⟩ : ∃ u, R 5 = u ∧ Rep (eSl (eInt .i64)) A w u x14 := ⟨_, rfl, hF' 3 _ _ rfl rfl rfl⟩
   replace hO := hO.fr hw
   replace hA := hA.fr hw.size
   replace hF := hF.trans hw
   clear hs hF' hw
   refine seqR_nil ?_
   refine HT.seq ?_
   refine HT.text (l := ⟨_, true, .raw (.int .i64 (1 : Int))⟩ :: []) (tl := []) (by kernel_rfl) (by kernel_rfl) (by kernel_rfl) ?_ ?_
   ·exact
     Obls.p (fun R' w' hw hs hd => of_assign rfl) <|
     Obls.nil
   intro R w hw hs hF'
   replace h1 := (hs 1 rfl).trans h1
   replace h3 := (hs 3 rfl).trans h3
   replace h4 := (hs 4 rfl).trans h4
   replace h5 := (hs 5 rfl).trans h5
   have h6 : R 6 = .int .i64 (1 : Int) := hF' 0 _ _ rfl rfl rfl
   replace f_u16 := f_u16.fr hw
   replace hO := hO.fr hw
   replace hA := hA.fr hw.size
   replace hF := hF.trans hw
   clear hs hF' hw
   refine seqR_nil ?_
   obtain ⟨rl17, q18, hr⟩ := cl_some hr
   replace q18 := q18 rfl
   refine HT.cut0 (fun R w => ∃ A : Av, ∃ (s19 : (List T_impl_Test)) (uo_ul_u3 : Value), rl17 = s19 ∧ AvOK A w ∧ Fr w0 w ∧ (∀ b o, A0 b o → A b o) ∧ IniOK [ob (.pointer (some ⟨b1_0, 0, none⟩)) (.box w0.heap.size 62 E_impl_RuleSet p0), ob uo_ul_u3 (.vec w0.heap.size 85 E_impl_Test s19)] A w ∧ R 1 = (.pointer (some ⟨b1_0, 0, none⟩)) ∧ R 3 = uo_ul_u3 ∧ R 4 = .int .i64 y7) ?_ ?_
   ·refine HT.block ?_
    refine HT.loop (fun k R w => ∃ A : Av, ∃ (y20 : Int) (y21 : List T_impl_Test) (ul_ul_u3 : Value), M_spec_DiagramVariables_L1 fu y7 x14 k y20 y21 = some rl17 ∧ AvOK A w ∧ Fr w0 w ∧ (∀ b o, A0 b o → A b o) ∧ IniOK [ob (.pointer (some ⟨b1_0, 0, none⟩)) (.box w0.heap.size 62 E_impl_RuleSet p0), ob ul_ul_u3 (.vec w0.heap.size 85 E_impl_Test y21)] A w ∧ R 1 = (.pointer (some ⟨b1_0, 0, none⟩)) ∧ R 3 = ul_ul_u3 ∧ R 4 = .int .i64 y7 ∧ R 5 = u16 ∧ R 6 = .int .i64 y20 ∧ Rep (eSl (eInt .i64)) A w u16 x14) fu ⟨_, _, _, ul_u3, q18, hA, hF, hAA, hO, h1, h3, h4, h5, h6, f_u16⟩ ?_
    have hr0 := hr; clear hr q18
    rintro k R w ⟨A, y20, y21, ul_ul_u3, hr, hA, hF, hAA, hO, h1, h3, h4, h5, h6, f_u16⟩
    rcases k with _ | k
    ·cases (show none = some _ from hr)
    rw [M_spec_DiagramVariables_L1] at hr
    refine HT.seq ?_
    refine HT.seq ?_
    refine HT.text (l := ⟨_, true, .raw (.int .i64 y20)⟩ :: ⟨_, true, .raw u16⟩ :: ⟨_, true, .raw (.int .i64 (x14.length : Int))⟩ :: ⟨_, true, .raw (.bool (decide (y20 < (x14.length : Int))))⟩ :: []) (tl := []) (by kernel_rfl) (by kernel_rfl) (by kernel_rfl) ?_ ?_
    ·exact
      Obls.p (fun R' w' hw hs hd => of_move ((hs 6 rfl).trans h6)) <|
      Obls.p (fun R' w' hw hs hd => of_move ((hs 5 rfl).trans h5)) <|
      Obls.p (fun R' w' hw hs hd => by have a0 : R' 20 = u16 := hd.g 0 rfl; have ra0 := (f_u16.fr hw).eq a0; exact of_len_sl (aT := #[]) ra0 Try.underlying25) <|
      Obls.p (fun R' w' hw hs hd => by have a0 : R' 19 = .int .i64 y20 := hd.g 0 rfl; have a1 : R' 21 = .int .i64 (x14.length : Int) := hd.g 1 rfl; exact of_lss a0 a1) <|
      Obls.nil
    intro R w hw hs hF'
    replace h1 := (hs 1 rfl).trans h1
    replace h3 := (hs 3 rfl).trans h3
    replace h4 := (hs 4 rfl).trans h4
    replace h5 := (hs 5 rfl).trans h5
    replace h6 := (hs 6 rfl).trans h6
    have h22 : R 22 = .bool (decide (y20 < (x14.length : Int))) := hF' 3 _ _ rfl rfl rfl
    replace f_u16 := f_u16.fr hw
    replace hO := hO.fr hw
    replace hA := hA.fr hw.size
    replace hF := hF.trans hw
    clear hs hF' hw
    refine seqR_nil ?_
    refine HT.cond (decide (y20 < (x14.length : Int))) h22 (fun c22 => ?_) (fun c22 => ?_)
    ·have hr := cnd_t c22 hr
     refine HT.skip ?_
     refine HT.seq ?_
     refine HT.block ?_
     obtain ⟨e23, hr⟩ := ck_some hr
     obtain ⟨e24, hr⟩ := ck_some hr
     refine HT.textR [ob (.pointer (some ⟨b1_0, 0, none⟩)) (.box w0.heap.size 62 E_impl_RuleSet p0), ob ul_ul_u3 (.vec w0.heap.size 85 E_impl_Test y21)] (⟨_, true, [], none, true, fun A => .raw ul_ul_u3⟩ :: ⟨_, true, [], none, true, fun A => .raw (.int .i64 y7)⟩ :: ⟨_, true, [], none, true, fun A => .raw u16⟩ :: ⟨_, true, [], none, true, fun A => .raw (.int .i64 y20)⟩ :: ⟨_, true, [], none, true, fun A => .qtr (eInt .i64) A (gtD x14 y20)⟩ :: ⟨_, true, [], none, true, fun A => .raw (.int .i64 (gtD x14 y20))⟩ :: ⟨_, true, [], none, true, fun A => .rep E_impl_Test A (y7, (gtD x14 y20), false)⟩ :: ⟨_, true, [], none, true, fun A => .rep (eSl E_impl_Test) A ([(y7, (gtD x14 y20), false)] : List T_impl_Test)⟩ :: ⟨_, true, [1], some (.vec w0.heap.size 85 E_impl_Test (y21 ++ ([(y7, (gtD x14 y20), false)] : List T_impl_Test))), true, fun A => .any⟩ :: ⟨_, true, [10], some (.vec w0.heap.size 85 E_impl_Test (y21 ++ ([(y7, (gtD x14 y20), false)] : List T_impl_Test))), true, fun A => .any⟩ :: []) (by kernel_rfl) (by kernel_rfl) (Wf.mk' (by kernel_rfl) (UAll.cons ust_raw (UAll.cons ust_raw (UAll.cons ust_raw (UAll.cons ust_raw (UAll.cons ust_qtr (UAll.cons ust_raw (UAll.cons ust_rep (UAll.cons ust_rep (UAll.cons ust_any (UAll.cons ust_any (UAll.nil))))))))))) (by kernel_rfl) (by kernel_rfl)) hO hA ?_ ?_
     ·exact
       OblsR.p (fun A' R' w' ho hd => of_move ((ho.old 3 rfl).trans h3)) <|
       OblsR.p (fun A' R' w' ho hd => of_move ((ho.old 4 rfl).trans h4)) <|
       OblsR.p (fun A' R' w' ho hd => of_move ((ho.old 5 rfl).trans h5)) <|
       OblsR.p (fun A' R' w' ho hd => of_move ((ho.old 6 rfl).trans h6)) <|
       OblsR.p (fun A' R' w' ho hd => by have a0 : R' 27 = u16 := hd.g 0 rfl; have a1 : R' 28 = .int .i64 y20 := hd.g 1 rfl; have ra0 := (f_u16.stp ho.stp).eq a0; exact of_indexAddr ra0 a1 Try.underlying25 Try.sizeOf3 e23) <|
       OblsR.p (fun A' R' w' ho hd => by have a0 : QRep (eInt .i64) A' w' (R' 29) (gtD x14 y20) := hd.g 0 rfl; exact OpF.int (of_load a0.ptr Try.isAgg3 Try.sizeOf3)) <|
       OblsR.p (fun A' R' w' ho hd => by have a0 : R' 26 = .int .i64 y7 := hd.g 0 rfl; have a1 : R' 30 = .int .i64 (gtD x14 y20) := hd.g 1 rfl; exact of_build_raw (v := .agg #[.int .i64 y7, .int .i64 (gtD x14 y20), .bool false]) (by simp [execOp, Instr.build, evalR, a0, a1, underlying, Try.underlying85, Try.zeroValue85, Try.sizeOf3, Try.sizeOf4, go_sem, Instr.fill]) ⟨_, rfl, rep_pr rep1_int (rep_pr rep1_int rep1_bool)⟩) <|
       OblsR.p (fun A' R' w' ho hd => by have a0 : Rep E_impl_Test A' w' (R' 31) (y7, (gtD x14 y20), false) := hd.g 0 rfl; exact of_build [_] (E := E_impl_Test) ⟨a0, trivial⟩ Try.underlying28 Try.sizeOf85 Try.zeroValue85 rfl rfl rfl ho.av) <|
       OblsR.cons (OblR.took 1 _ _ rfl rfl rfl rfl rfl fun A' R' w' ho hd u hok hav hin hop hds => by have a0 : R' 25 = ul_ul_u3 := hd.g 0 rfl; have a1 : Rep (eSl E_impl_Test) A' w' (R' 32) ([(y7, (gtD x14 y20), false)] : List T_impl_Test) := hd.g 1 rfl; exact took_append (a0.trans (hin _ rfl).symm) hok hav (Nat.le_trans hF.size ho.ch.size) a1 Try.underlying28 el_85 e24) <|
       OblsR.cons (OblR.took 10 _ _ rfl rfl rfl rfl rfl fun A' R' w' ho hd u hok hav hin hop hds => by exact took_assign (hop _ _ rfl rfl rfl rfl).symm hok hav) <|
       OblsR.nil
     intro done ρ σ A R w hdn hI
     replace h1 : R 1 = (.pointer (some ⟨b1_0, 0, none⟩)) := (hI.reg rfl).trans h1
     replace h4 : R 4 = .int .i64 y7 := (hI.reg rfl).trans h4
     replace h5 : R 5 = u16 := (hI.reg rfl).trans h5
     replace h6 : R 6 = .int .i64 y20 := (hI.reg rfl).trans h6
     have z25 := hI.inivR 0 rfl
     obtain ⟨u26, e_u26⟩ : ∃ u, ρ 11 = u := ⟨_, rfl⟩
     have h3 : R 3 = u26 := (hI.opvR hdn 11 9 rfl rfl rfl rfl rfl).symm.trans e_u26
     replace f_u16 := f_u16.stp hI.stp
     replace hAA := hI.low' hAA hA0 (hO.ge (⟨rfl, ⟨rfl, trivial⟩⟩))
     replace hF : Fr w0 w := hF.tr hI.ch (hO.ge (⟨rfl, ⟨rfl, trivial⟩⟩))
     replace hO : IniOK [ob (.pointer (some ⟨b1_0, 0, none⟩)) (.box w0.heap.size 62 E_impl_RuleSet p0), ob u26 (.vec w0.heap.size 85 E_impl_Test (y21 ++ ([(y7, (gtD x14 y20), false)] : List T_impl_Test)))] A w := hI.left hdn [(0, ob (.pointer (some ⟨b1_0, 0, none⟩)) (.box w0.heap.size 62 E_impl_RuleSet p0)), (11, ob u26 (.vec w0.heap.size 85 E_impl_Test (y21 ++ ([(y7, (gtD x14 y20), false)] : List T_impl_Test))))] ⟨rfl, rfl, z25, rfl, rfl, ⟨rfl, rfl, e_u26, rfl, rfl, trivial⟩⟩
     replace hA := hI.avok
     clear hI
     obtain ⟨e27, hr⟩ := ck_some hr
     refine HT.text (l := ⟨_, true, .raw (.int .i64 y20)⟩ :: ⟨_, true, .raw (.int .i64 (y20 + (1 : Int)))⟩ :: ⟨_, true, .raw (.int .i64 (y20 + (1 : Int)))⟩ :: []) (tl := []) (by kernel_rfl) (by kernel_rfl) (by kernel_rfl) ?_ ?_
     ·exact
       Obls.p (fun R' w' hw hs hd => of_move ((hs 6 rfl).trans h6)) <|
       Obls.p (fun R' w' hw hs hd => by have a0 : R' 23 = .int .i64 y20 := hd.g 0 rfl; exact of_add a0 rfl e27) <|
       Obls.p (fun R' w' hw hs hd => by have a0 : R' 24 = .int .i64 (y20 + (1 : Int)) := hd.g 0 rfl; exact of_assign a0) <|
       Obls.nil
     intro R w hw hs hF'
     replace h1 := (hs 1 rfl).trans h1
     replace h3 := (hs 3 rfl).trans h3
     replace h4 := (hs 4 rfl).trans h4
     replace h5 := (hs 5 rfl).trans h5
     have h6 : R 6 = .int .i64 (y20 + (1 : Int)) := hF' 2 _ _ rfl rfl rfl
     replace f_u16 := f_u16.fr hw
     replace hO := hO.fr hw
     replace hA := hA.fr hw.size
     replace hF := hF.trans hw
     clear hs hF' hw
     refine seqR_nil ?_
     exact Exists.intro k (And.intro (Nat.lt_succ_self k) ⟨_, _, _, u26, hr, hA, hF, hAA, hO, h1, h3, h4, h5, h6, f_u16⟩)
    ·have hr := cnd_f c22 hr
     refine HT.exit ?_
     obtain rfl := Option.some.inj hr
     exact Exists.intro _ ⟨_, ul_ul_u3, rfl, hA, hF, hAA, hO, h1, h3, h4⟩
   rintro R w ⟨A, s19, uo_ul_u3, es, hA, hF, hAA, hO, h1, h3, h4⟩
   obtain rfl := es.symm
   obtain ⟨e28, hr⟩ := ck_some hr
   refine HT.text (l := ⟨_, true, .raw (.int .i64 y7)⟩ :: ⟨_, true, .raw (.int .i64 (y7 + (1 : Int)))⟩ :: ⟨_, true, .raw (.int .i64 (y7 + (1 : Int)))⟩ :: []) (tl := []) (by kernel_rfl) (by kernel_rfl) (by kernel_rfl) ?_ ?_
   ·exact
     Obls.p (fun R' w' hw hs hd => of_move ((hs 4 rfl).trans h4)) <|
     Obls.p (fun R' w' hw hs hd => by have a0 : R' 14 = .int .i64 y7 := hd.g 0 rfl; exact of_add a0 rfl e28) <|
     Obls.p (fun R' w' hw hs hd => by have a0 : R' 15 = .int .i64 (y7 + (1 : Int)) := hd.g 0 rfl; exact of_assign a0) <|
     Obls.nil
   intro R w hw hs hF'
   replace h1 := (hs 1 rfl).trans h1
   replace h3 := (hs 3 rfl).trans h3
   have h4 : R 4 = .int .i64 (y7 + (1 : Int)) := hF' 2 _ _ rfl rfl rfl
   replace hO := hO.fr hw
   replace hA := hA.fr hw.size
   replace hF := hF.trans hw
   clear hs hF' hw
   refine seqR_nil ?_
   exact Exists.intro k (And.intro (Nat.lt_succ_self k) ⟨_, _, _, uo_ul_u3, hr, hA, hF, hAA, hO, h1, h3, h4⟩)
  ·have hr := cnd_f c13 hr
   refine HT.exit ?_
   obtain rfl := Option.some.inj hr
   replace hO : IniOK [ob ul_u3 (.vec w0.heap.size 85 E_impl_Test y8)] A w := hO.sub [(1, ob ul_u3 (.vec w0.heap.size 85 E_impl_Test y8))] ⟨rfl, rfl, trivial⟩
   exact Exists.intro _ ⟨_, ul_u3, rfl, hA, hF, hAA, hO, h3⟩
 rintro R w ⟨A, s6, uo_u3, es, hA, hF, hAA, hO, h3⟩
 obtain rfl := es.symm
 refine HT.seq ?_
 refine HT.text (l := ⟨_, true, .raw uo_u3⟩ :: ⟨_, true, .raw uo_u3⟩ :: []) (tl := []) (by kernel_rfl) (by kernel_rfl) (by kernel_rfl) ?_ ?_
 ·exact
   Obls.p (fun R' w' hw hs hd => of_move ((hs 3 rfl).trans h3)) <|
   Obls.p (fun R' w' hw hs hd => by have a0 : R' 34 = uo_u3 := hd.g 0 rfl; exact of_assign a0) <|
   Obls.nil
 intro R w hw hs hF'
 have h2 : R 2 = uo_u3 := hF' 1 _ _ rfl rfl rfl
 replace hO := hO.fr hw
 replace hA := hA.fr hw.size
 replace hF := hF.trans hw
 clear hs hF' hw
 refine seqR_nil ?_
 refine HT.ret ?_
 obtain rfl := Option.some.inj hr
 exact ⟨.inr rfl, [R 2], ⟨rfl, trivial⟩, (own_post (hO.ok 0 _ rfl) hAA h2), hF⟩
theorem M_spec_DiagramVariables_okR {fu : Nat} {A0 : Av} {p0 : T_impl_RuleSet} {r : List T_impl_Test} (hr : M_spec_DiagramVariables fu p0 = some r) {w : World} {v0 : Value} (hA : AvOK A0 w) (h0 : Rep E_impl_RuleSet A0 w v0 p0) :
  Calls Try.prog 45 #[v0] w fun e w' => ∃ v, e = .returned v ∧ (Rep (eSl E_impl_Test) A0 w' v r ∧ Fr w w') := by
 refine Calls.mono (M_spec_DiagramVariables_ok hr hA h0) ?_
 rintro e w' ⟨v, he, hv, hf⟩
 exact ⟨v, he, vec_rep hv (fun b o h => .inl h) hA, hf⟩
def M_impl_within (fu : Nat) (p0 : Int) (p1 : Int) (p2 : Int) : Option Bool :=
 bd ((decide (p1 ≤ p0)) && (decide (p0 ≤ p2))) fun x1 =>
 some x1
theorem M_impl_within_ok {fu : Nat} {A : Av} {p0 : Int} {p1 : Int} {p2 : Int} {r : Bool} (hr : M_impl_within fu p0 p1 p2 = some r) {w : World} {v0 : Value} {v1 : Value} {v2 : Value} (hA : AvOK A w) (h0 : v0 = .int .i64 p0) (h1 : v1 = .int .i64 p1) (h2 : v2 = .int .i64 p2) :
  Calls Try.prog 73 #[v0, v1, v2] w fun e w' => ∃ v, e = .returned v ∧ (v = .bool r ∧ Fr w w') := by
 unfold M_impl_within at hr
 obtain ⟨w0, hw0⟩ : ∃ w0, w0 = w := ⟨_, rfl⟩
 have hF : Fr w0 w := hw0 ▸ Fr.refl _
 rw [show Fr w = Fr w0 from hw0 ▸ rfl]
 clear hw0
 refine calls_of_HT2 [.tmp 6] Try.func73 Try.ntmps73 (by decide) rfl rfl (Nat.le_of_ble_eq_true rfl) ?_
 intro R hR
 replace h0 : R 0 = .int .i64 p0 := (hR 0 _ rfl).trans h0
 replace h1 : R 1 = .int .i64 p1 := (hR 1 _ rfl).trans h1
 replace h2 : R 2 = .int .i64 p2 := (hR 2 _ rfl).trans h2
 clear hR
 refine HT.seq ?_
 refine HT.text (l := ⟨_, true, .raw (.bool false)⟩ :: []) (tl := []) (by kernel_rfl) (by kernel_rfl) (by kernel_rfl) ?_ ?_
 ·exact
   Obls.p (fun R' w' hw hs hd => of_assign rfl) <|
   Obls.nil
 intro R w hw hs hF'
 replace h0 := (hs 0 rfl).trans h0
 replace h1 := (hs 1 rfl).trans h1
 replace h2 := (hs 2 rfl).trans h2
 replace hA := hA.fr hw.size
 replace hF := hF.trans hw
 clear hs hF' hw
 refine seqR_nil ?_
 refine HT.seq ?_
 obtain ⟨x1, q2, hr⟩ := bd_some hr
 refine HT.text (l := ⟨_, true, .raw (.int .i64 p0)⟩ :: ⟨_, true, .raw (.int .i64 p1)⟩ :: ⟨_, true, .raw (.bool (decide (p1 ≤ p0)))⟩ :: ⟨_, true, .raw (.bool (decide (p1 ≤ p0)))⟩ :: ⟨_, (true && ((decide (p1 ≤ p0)) == true)), .raw (.int .i64 p0)⟩ :: ⟨_, (true && ((decide (p1 ≤ p0)) == true)), .raw (.int .i64 p2)⟩ :: ⟨_, (true && ((decide (p1 ≤ p0)) == true)), .raw (.bool (decide (p0 ≤ p2)))⟩ :: ⟨_, true, .raw (.bool x1)⟩ :: ⟨_, true, .raw (.bool x1)⟩ :: []) (tl := []) (by kernel_rfl) (by kernel_rfl) (by kernel_rfl) ?_ ?_
 ·exact
   Obls.p (fun R' w' hw hs hd => of_move ((hs 0 rfl).trans h0)) <|
   Obls.p (fun R' w' hw hs hd => of_move ((hs 1 rfl).trans h1)) <|
   Obls.p (fun R' w' hw hs hd => by have a0 : R' 7 = .int .i64 p0 := hd.g 0 rfl; have a1 : R' 8 = .int .i64 p1 := hd.g 1 rfl; exact of_geq a0 a1) <|
   Obls.p (fun R' w' hw hs hd => by have a0 : R' 9 = .bool (decide (p1 ≤ p0)) := hd.g 0 rfl; exact of_move a0) <|
   Obls.cons (Obl.grd 3 true _ _ _ rfl rfl rfl rfl rfl (by kernel_rfl) fun hg R' w' hw hs hd => by have a0 : R' 0 = .int .i64 p0 := (hs 0 rfl).trans h0; exact of_move a0) <|
   Obls.cons (Obl.grd 3 true _ _ _ rfl rfl rfl rfl rfl (by kernel_rfl) fun hg R' w' hw hs hd => by have a0 : R' 2 = .int .i64 p2 := (hs 2 rfl).trans h2; exact of_move a0) <|
   Obls.cons (Obl.grd 3 true _ _ _ rfl rfl rfl rfl rfl (by kernel_rfl) fun hg R' w' hw hs hd => by have a0 : R' 11 = .int .i64 p0 := hd 0 _ _ _ rfl rfl rfl rfl hg; have a1 : R' 12 = .int .i64 p2 := hd 1 _ _ _ rfl rfl rfl rfl hg; exact of_leq a0 a1) <|
   Obls.p (fun R' w' hw hs hd => by have a0 : R' 10 = .bool (decide (p1 ≤ p0)) := hd.g 0 rfl; exact of_pick (decide (p1 ≤ p0)) a0 (fun hc => by have a1 : R' 13 = .bool (decide (p0 ≤ p2)) := hd 1 _ _ _ rfl rfl rfl rfl (g_and rfl (beq_of hc)); show _ = Value.bool x1; rw [q2, hc]; exact a1) (fun hc => by show _ = Value.bool x1; rw [q2, hc]; exact rfl)) <|
   Obls.p (fun R' w' hw hs hd => by have a0 : R' 14 = .bool x1 := hd.g 0 rfl; exact of_assign a0) <|
   Obls.nil
 intro R w hw hs hF'
 have h6 : R 6 = .bool x1 := hF' 8 _ _ rfl rfl rfl
 replace hA := hA.fr hw.size
 replace hF := hF.trans hw
 clear hs hF' hw
 refine seqR_nil ?_
 refine HT.ret ?_
 obtain rfl := Option.some.inj hr
 exact ⟨.inr rfl, [R 6], ⟨rfl, trivial⟩, h6, hF⟩
def M_impl_isFeature (fu : Nat) (p0 : Int) : Option Bool :=
 cl true (M_impl_within fu p0 (0 : Int) (5 : Int)) fun x1 =>
 some x1
theorem M_impl_isFeature_ok {fu : Nat} {A : Av} {p0 : Int} {r : Bool} (hr : M_impl_isFeature fu p0 = some r) {w : World} {v0 : Value} (hA : AvOK A w) (h0 : v0 = .int .i64 p0) :
  Calls Try.prog 74 #[v0] w fun e w' => ∃ v, e = .returned v ∧ (v = .bool r ∧ Fr w w') := by
 unfold M_impl_isFeature at hr
 obtain ⟨w0, hw0⟩ : ∃ w0, w0 = w := ⟨_, rfl⟩
 have hF : Fr w0 w := hw0 ▸ Fr.refl _
 rw [show Fr w = Fr w0 from hw0 ▸ rfl]
 clear hw0
 refine calls_of_HT2 [.tmp 2] Try.func74 Try.ntmps74 (by decide) rfl rfl (Nat.le_of_ble_eq_true rfl) ?_
 intro R hR
 replace h0 : R 0 = .int .i64 p0 := (hR 0 _ rfl).trans h0
 clear hR
 refine HT.seq ?_
 refine HT.text (l := ⟨_, true, .raw (.bool false)⟩ :: []) (tl := []) (by kernel_rfl) (by kernel_rfl) (by kernel_rfl) ?_ ?_
 ·exact
   Obls.p (fun R' w' hw hs hd => of_assign rfl) <|
   Obls.nil
 intro R w hw hs hF'
 replace h0 := (hs 0 rfl).trans h0
 replace hA := hA.fr hw.size
 replace hF := hF.trans hw
 clear hs hF' hw
 refine seqR_nil ?_
 refine HT.seq ?_
 obtain ⟨x1, q2, hr⟩ := cl_some hr
 refine HT.text (l := ⟨_, true, .raw (.int .i64 p0)⟩ :: ⟨_, true, .raw (.bool x1)⟩ :: ⟨_, true, .raw (.bool x1)⟩ :: []) (tl := []) (by kernel_rfl) (by kernel_rfl) (by kernel_rfl) ?_ ?_
 ·exact
   Obls.p (fun R' w' hw hs hd => of_move ((hs 0 rfl).trans h0)) <|
   Obls.p (fun R' w' hw hs hd => by have a0 : R' 3 = .int .i64 p0 := hd.g 0 rfl; exact of_call Try.call73 (M_impl_within_ok (q2 rfl) (hA.fr hw.size) a0 rfl rfl)) <|
   Obls.p (fun R' w' hw hs hd => by have a0 : R' 4 = .bool x1 := hd.g 0 rfl; exact of_assign a0) <|
   Obls.nil
 intro R w hw hs hF'
 have h2 : R 2 = .bool x1 := hF' 2 _ _ rfl rfl rfl
 replace hA := hA.fr hw.size
 replace hF := hF.trans hw
 clear hs hF' hw
 refine seqR_nil ?_
 refine HT.ret ?_
 obtain rfl := Option.some.inj hr
 exact ⟨.inr rfl, [R 2], ⟨rfl, trivial⟩, h2, hF⟩
end Go.Proofs.Ytjfhlhhobpdneaa
