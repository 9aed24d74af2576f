/- Printed by dec.py: plain functions and the proofs that the code computes them. No statement of the seat is proved here. -/
import Derived.Test.YtkebpojbbfnehaaGreatE1
namespace Go.Proofs.YtkebpojbbfnehaaGreat
open Go.RowKit
set_option linter.unusedVariables false
set_option maxRecDepth 100000
set_option maxHeartbeats 4000000
def M_spec_CountTokens_L1 (fu : Nat) (p0 : List (List (List UInt8))) (y5 : Int) : Nat → Int → (List (List UInt8)) → Option (List (List UInt8))
 | 0, _, _ => none
 | k + 1, y11, y12 =>
  ck (inR y5 p0.length) <|
  bif (decide (y11 < ((gtD p0 y5).length : Int))) then (
   ck (inR y5 p0.length) <|
   ck (subR 0 y11 (gtD p0 y5).length) <|
   ck (inR y5 p0.length) <|
   ck (inR y11 (gtD p0 y5).length) <|
   cl true (M_spec_l3Has fu (subL (gtD p0 y5) 0 y11) (gtD (gtD p0 y5) y11)) fun x19 =>
   bif (!x19) then (
    ck (inR y5 p0.length) <|
    ck (inR y11 (gtD p0 y5).length) <|
    cl true (M_spec_l3Put fu y12 (gtD (gtD p0 y5) y11) true) fun x24 =>
    ck (i64B (y11 + (1 : Int))) <|
    M_spec_CountTokens_L1 fu p0 y5 k (y11 + (1 : Int)) x24
   ) else (
    ck (i64B (y11 + (1 : Int))) <|
    M_spec_CountTokens_L1 fu p0 y5 k (y11 + (1 : Int)) y12
   )
  ) else (
   some y12
  )
def M_spec_CountTokens_L0 (fu : Nat) (p0 : List (List (List UInt8))) : Nat → Int → (List (List UInt8)) → Option (List (List UInt8))
 | 0, _, _ => none
 | k + 1, y5, y6 =>
  bif (decide (y5 < (p0.length : Int))) then (
   cl true (M_spec_CountTokens_L1 fu p0 y5 fu (0 : Int) y6) fun s10 =>
   ck (i64B (y5 + (1 : Int))) <|
   M_spec_CountTokens_L0 fu p0 k (y5 + (1 : Int)) s10
  ) else (
   some y6
  )
def M_spec_CountTokens_L2 (fu : Nat) (s4 : (List (List UInt8))) : Nat → Int → (List T_impl_TokenCount) → Option (List T_impl_TokenCount)
 | 0, _, _ => none
 | k + 1, y35, y36 =>
  bif (decide (y35 < (s4.length : Int))) then (
   ck (!(true && ((decide ((0 : Int) < y35)) == true)) || i64B (y35 - (1 : Int))) <|
   ck (!(true && ((decide ((0 : Int) < y35)) == true)) || inR (y35 - (1 : Int)) s4.length) <|
   ck (!(true && ((decide ((0 : Int) < y35)) == true)) || inR y35 s4.length) <|
   bd ((decide ((0 : Int) < y35)) && ((gtD s4 (y35 - (1 : Int))) == (gtD s4 y35))) fun x41 =>
   bif x41 then (
    ck (i64B ((y36.length : Int) - (1 : Int))) <|
    ck (i64B ((y36.length : Int) - (1 : Int))) <|
    ck (inR ((y36.length : Int) - (1 : Int)) y36.length) <|
    ck (i64B (((gtD y36 ((y36.length : Int) - (1 : Int))).2) + (1 : Int))) <|
    ck (inR ((y36.length : Int) - (1 : Int)) y36.length) <|
    ck (i64B (y35 + (1 : Int))) <|
    M_spec_CountTokens_L2 fu s4 k (y35 + (1 : Int)) (y36.set ((y36.length : Int) - (1 : Int)).toNat ((gtD y36 ((y36.length : Int) - (1 : Int))).1, (((gtD y36 ((y36.length : Int) - (1 : Int))).2) + (1 : Int))))
   ) else (
    ck (inR y35 s4.length) <|
    ck (lenOK (y36.length + ([((gtD s4 y35), (1 : Int))] : List T_impl_TokenCount).length)) <|
    ck (i64B (y35 + (1 : Int))) <|
    M_spec_CountTokens_L2 fu s4 k (y35 + (1 : Int)) (y36 ++ ([((gtD s4 y35), (1 : Int))] : List T_impl_TokenCount))
   )
  ) else (
   some y36
  )
def M_spec_CountTokens (fu : Nat) (p0 : List (List (List UInt8))) : Option (List T_impl_TokenCount) :=
 cl true (M_spec_CountTokens_L0 fu p0 fu (0 : Int) ([] : List (List UInt8))) fun s4 =>
 cl true (M_spec_CountTokens_L2 fu s4 fu (0 : Int) ([] : List T_impl_TokenCount)) fun s34 =>
 some s34
set_option linter.unusedSimpArgs false in
theorem M_spec_CountTokens_ok {fu : Nat} {A0 : Av} {p0 : List (List (List UInt8))} {r : List T_impl_TokenCount} (hr : M_spec_CountTokens fu p0 = some r) {w : World} {v0 : Value} (hA : AvOK A0 w) (h0 : Rep (eSl (eSl eStr)) A0 w v0 p0) :
  Calls Tryz.prog 70 #[v0] w fun e w' => ∃ v, e = .returned v ∧ ((Res.vec w.heap.size 91 E_impl_TokenCount r).ok (addA A0 v) v w' ∧ Fr w w') := by
 unfold M_spec_CountTokens at hr
 obtain ⟨w0, hw0⟩ : ∃ w0, w0 = w := ⟨_, rfl⟩
 have hF : Fr w0 w := hw0 ▸ Fr.refl _
 have hA0 : ∀ b o, A0 b o → b < w0.heap.size := fun b o h => hw0 ▸ hA b o h
 have hA00 : AvOK A0 w0 := hA0
 rw [show w.heap.size = w0.heap.size from hw0 ▸ rfl]
 rw [show Fr w = Fr w0 from hw0 ▸ rfl]
 clear hw0
 obtain ⟨A, hAe⟩ : ∃ A, A = A0 := ⟨_, rfl⟩
 have hAA : ∀ b o, A0 b o → A b o := fun b o h => hAe ▸ h
 replace hA : AvOK A w := hAe ▸ hA
 have hO : IniOK [] A w := IniOK.nil
 refine calls_of_HT2 [.tmp 2] Tryz.func70 Tryz.ntmps70 (by decide) rfl rfl (Nat.le_of_ble_eq_true rfl) ?_
 intro R hR
 have f_v0 : Rep (eSl (eSl eStr)) A w v0 p0 := hAe ▸ h0
 replace h0 : R 0 = v0 := hR 0 _ rfl
 clear hR hAe
 refine HT.seq ?_
 refine HT.text (l := ⟨_, true, .any⟩ :: []) (tl := []) (by kernel_rfl) (by kernel_rfl) (by kernel_rfl) ?_ ?_
 ·exact
   Obls.p (fun R' w' hw hs hd => of_assign trivial) <|
   Obls.nil
 intro R w hw hs hF'
 replace h0 := (hs 0 rfl).trans h0
 replace f_v0 := f_v0.fr hw
 replace hO := hO.fr hw
 replace hA := hA.fr hw.size
 replace hF := hF.trans hw
 clear hs hF' hw
 refine seqR_nil ?_
 refine HT.seq ?_
 refine HT.textR [] (⟨_, true, [], some (.vec w0.heap.size 9 eStr ([] : List (List UInt8))), true, fun A => .any⟩ :: ⟨_, true, [0], some (.vec w0.heap.size 9 eStr ([] : List (List UInt8))), true, fun A => .any⟩ :: []) (by kernel_rfl) (by kernel_rfl) (Wf.mk' (by kernel_rfl) (UAll.cons ust_any (UAll.cons ust_any (UAll.nil))) (by kernel_rfl) (by kernel_rfl)) hO hA ?_ ?_
 ·exact
   OblsR.cons (OblR.made _ rfl rfl rfl rfl fun A' R' w' ho hd => by exact made_build [] (E := eStr) trivial Tryz.underlying25 Tryz.sizeOf9 Tryz.zeroValue9 rfl rfl rfl (Nat.le_trans hF.size ho.ch.size)) <|
   OblsR.cons (OblR.took 0 _ _ rfl rfl rfl rfl rfl fun A' R' w' ho hd u hok hav hin hop hds => by exact took_assign (hop _ _ rfl rfl rfl rfl).symm hok hav) <|
   OblsR.nil
 intro done ρ σ A R w hdn hI
 replace h0 : R 0 = v0 := (hI.reg rfl).trans h0
 obtain ⟨u1, e_u1⟩ : ∃ u, ρ 1 = u := ⟨_, rfl⟩
 have h3 : R 3 = u1 := (hI.opvR hdn 1 1 rfl rfl rfl rfl rfl).symm.trans e_u1
 replace f_v0 := f_v0.stp hI.stp
 replace hAA := hI.low' hAA hA0 (hO.ge (trivial))
 replace hF : Fr w0 w := hF.tr hI.ch (hO.ge (trivial))
 replace hO : IniOK [ob u1 (.vec w0.heap.size 9 eStr ([] : List (List UInt8)))] A w := hI.left hdn [(1, ob u1 (.vec w0.heap.size 9 eStr ([] : List (List UInt8))))] ⟨rfl, rfl, e_u1, rfl, rfl, trivial⟩
 replace hA := hI.avok
 clear hI
 refine HT.seq ?_
 refine HT.seq ?_
 refine HT.text (l := ⟨_, true, .raw (.int .i64 (0 : Int))⟩ :: []) (tl := []) (by kernel_rfl) (by kernel_rfl) (by kernel_rfl) ?_ ?_
 ·exact
   Obls.p (fun R' w' hw hs hd => of_assign rfl) <|
   Obls.nil
 intro R w hw hs hF'
 replace h0 := (hs 0 rfl).trans h0
 replace h3 := (hs 3 rfl).trans h3
 have h4 : R 4 = .int .i64 (0 : Int) := hF' 0 _ _ rfl rfl rfl
 replace f_v0 := f_v0.fr hw
 replace hO := hO.fr hw
 replace hA := hA.fr hw.size
 replace hF := hF.trans hw
 clear hs hF' hw
 refine seqR_nil ?_
 obtain ⟨rl2, q3, hr⟩ := cl_some hr
 replace q3 := q3 rfl
 refine HT.cut0 (fun R w => ∃ A : Av, ∃ (s4 : (List (List UInt8))) (uo_u1 : Value), rl2 = s4 ∧ AvOK A w ∧ Fr w0 w ∧ (∀ b o, A0 b o → A b o) ∧ IniOK [ob uo_u1 (.vec w0.heap.size 9 eStr s4)] A w ∧ R 3 = uo_u1) ?_ ?_
 ·refine HT.block ?_
  refine HT.loop (fun k R w => ∃ A : Av, ∃ (y5 : Int) (y6 : List (List UInt8)) (ul_u1 : Value), M_spec_CountTokens_L0 fu p0 k y5 y6 = some rl2 ∧ AvOK A w ∧ Fr w0 w ∧ (∀ b o, A0 b o → A b o) ∧ IniOK [ob ul_u1 (.vec w0.heap.size 9 eStr y6)] A w ∧ R 0 = v0 ∧ R 3 = ul_u1 ∧ R 4 = .int .i64 y5 ∧ Rep (eSl (eSl eStr)) A w v0 p0) fu ⟨_, _, _, u1, q3, hA, hF, hAA, hO, h0, h3, h4, f_v0⟩ ?_
  have hr0 := hr; clear hr q3
  rintro k R w ⟨A, y5, y6, ul_u1, hr, hA, hF, hAA, hO, h0, h3, h4, f_v0⟩
  rcases k with _ | k
  ·cases (show none = some _ from hr)
  rw [M_spec_CountTokens_L0] at hr
  refine HT.seq ?_
  refine HT.seq ?_
  refine HT.text (l := ⟨_, true, .raw (.int .i64 y5)⟩ :: ⟨_, true, .raw v0⟩ :: ⟨_, true, .raw (.int .i64 (p0.length : Int))⟩ :: ⟨_, true, .raw (.bool (decide (y5 < (p0.length : Int))))⟩ :: []) (tl := []) (by kernel_rfl) (by kernel_rfl) (by kernel_rfl) ?_ ?_
  ·exact
    Obls.p (fun R' w' hw hs hd => of_move ((hs 4 rfl).trans h4)) <|
    Obls.p (fun R' w' hw hs hd => of_move ((hs 0 rfl).trans h0)) <|
    Obls.p (fun R' w' hw hs hd => by have a0 : R' 10 = v0 := hd.g 0 rfl; have ra0 := (f_v0.fr hw).eq a0; exact of_len_sl (aT := #[]) ra0 Tryz.underlying86) <|
    Obls.p (fun R' w' hw hs hd => by have a0 : R' 9 = .int .i64 y5 := hd.g 0 rfl; have a1 : R' 11 = .int .i64 (p0.length : Int) := hd.g 1 rfl; exact of_lss a0 a1) <|
    Obls.nil
  intro R w hw hs hF'
  replace h0 := (hs 0 rfl).trans h0
  replace h3 := (hs 3 rfl).trans h3
  replace h4 := (hs 4 rfl).trans h4
  have h12 : R 12 = .bool (decide (y5 < (p0.length : Int))) := hF' 3 _ _ rfl rfl rfl
  replace f_v0 := f_v0.fr hw
  replace hO := hO.fr hw
  replace hA := hA.fr hw.size
  replace hF := hF.trans hw
  clear hs hF' hw
  refine seqR_nil ?_
  refine HT.cond (decide (y5 < (p0.length : Int))) h12 (fun c7 => ?_) (fun c7 => ?_)
  ·have hr := cnd_t c7 hr
   refine HT.skip ?_
   refine HT.seq ?_
   refine HT.block ?_
   refine HT.seq ?_
   refine HT.text (l := ⟨_, true, .raw (.int .i64 (0 : Int))⟩ :: []) (tl := []) (by kernel_rfl) (by kernel_rfl) (by kernel_rfl) ?_ ?_
   ·exact
     Obls.p (fun R' w' hw hs hd => of_assign rfl) <|
     Obls.nil
   intro R w hw hs hF'
   replace h0 := (hs 0 rfl).trans h0
   replace h3 := (hs 3 rfl).trans h3
   replace h4 := (hs 4 rfl).trans h4
   have h5 : R 5 = .int .i64 (0 : Int) := hF' 0 _ _ rfl rfl rfl
   replace f_v0 := f_v0.fr hw
   replace hO := hO.fr hw
   replace hA := hA.fr hw.size
   replace hF := hF.trans hw
   clear hs hF' hw
   refine seqR_nil ?_
   obtain ⟨rl8, q9, hr⟩ := cl_some hr
   replace q9 := q9 rfl
   refine HT.cut0 (fun R w => ∃ A : Av, ∃ (s10 : (List (List UInt8))) (uo_ul_u1 : Value), rl8 = s10 ∧ AvOK A w ∧ Fr w0 w ∧ (∀ b o, A0 b o → A b o) ∧ IniOK [ob uo_ul_u1 (.vec w0.heap.size 9 eStr s10)] A w ∧ R 0 = v0 ∧ R 3 = uo_ul_u1 ∧ R 4 = .int .i64 y5 ∧ Rep (eSl (eSl eStr)) A w v0 p0) ?_ ?_
   ·refine HT.block ?_
    refine HT.loop (fun k R w => ∃ A : Av, ∃ (y11 : Int) (y12 : List (List UInt8)) (ul_ul_u1 : Value), M_spec_CountTokens_L1 fu p0 y5 k y11 y12 = some rl8 ∧ AvOK A w ∧ Fr w0 w ∧ (∀ b o, A0 b o → A b o) ∧ IniOK [ob ul_ul_u1 (.vec w0.heap.size 9 eStr y12)] A w ∧ R 0 = v0 ∧ R 3 = ul_ul_u1 ∧ R 4 = .int .i64 y5 ∧ R 5 = .int .i64 y11 ∧ Rep (eSl (eSl eStr)) A w v0 p0) fu ⟨_, _, _, ul_u1, q9, hA, hF, hAA, hO, h0, h3, h4, h5, f_v0⟩ ?_
    have hr0 := hr; clear hr q9
    rintro k R w ⟨A, y11, y12, ul_ul_u1, hr, hA, hF, hAA, hO, h0, h3, h4, h5, f_v0⟩
    rcases k with _ | k
    ·cases (show none = some _ from hr)
    rw [M_spec_CountTokens_L1] at hr
    refine HT.seq ?_
    refine HT.seq ?_
    obtain ⟨e13, hr⟩ := ck_some hr
    refine HT.text (l := ⟨_, true, .raw (.int .i64 y11)⟩ :: ⟨_, true, .raw v0⟩ :: ⟨_, true, .raw (.int .i64 y5)⟩ :: ⟨_, true, .qtr (eSl eStr) A (gtD p0 y5)⟩ :: ⟨_, true, .rep (eSl eStr) A (gtD p0 y5)⟩ :: ⟨_, true, .raw (.int .i64 ((gtD p0 y5).length : Int))⟩ :: ⟨_, true, .raw (.bool (decide (y11 < ((gtD p0 y5).length : Int))))⟩ :: []) (tl := []) (by kernel_rfl) (by kernel_rfl) (by kernel_rfl) ?_ ?_
    ·exact
      Obls.p (fun R' w' hw hs hd => of_move ((hs 5 rfl).trans h5)) <|
      Obls.p (fun R' w' hw hs hd => of_move ((hs 0 rfl).trans h0)) <|
      Obls.p (fun R' w' hw hs hd => of_move ((hs 4 rfl).trans h4)) <|
      Obls.p (fun R' w' hw hs hd => by have a0 : R' 16 = v0 := hd.g 0 rfl; have a1 : R' 17 = .int .i64 y5 := hd.g 1 rfl; have ra0 := (f_v0.fr hw).eq a0; exact of_indexAddr ra0 a1 Tryz.underlying86 Tryz.sizeOf25 e13) <|
      Obls.p (fun R' w' hw hs hd => by have a0 : QRep (eSl eStr) A w' (R' 18) (gtD p0 y5) := hd.g 0 rfl; exact (of_load a0.ptr Tryz.isAgg25 Tryz.sizeOf25)) <|
      Obls.p (fun R' w' hw hs hd => by have a0 : Rep (eSl eStr) A w' (R' 19) (gtD p0 y5) := hd.g 0 rfl; exact of_len_sl (aT := #[]) a0 Tryz.underlying25) <|
      Obls.p (fun R' w' hw hs hd => by have a0 : R' 15 = .int .i64 y11 := hd.g 0 rfl; have a1 : R' 20 = .int .i64 ((gtD p0 y5).length : Int) := hd.g 1 rfl; exact of_lss a0 a1) <|
      Obls.nil
    intro R w hw hs hF'
    replace h0 := (hs 0 rfl).trans h0
    replace h3 := (hs 3 rfl).trans h3
    replace h4 := (hs 4 rfl).trans h4
    replace h5 := (hs 5 rfl).trans h5
    have h21 : R 21 = .bool (decide (y11 < ((gtD p0 y5).length : Int))) := hF' 6 _ _ rfl rfl rfl
    replace f_v0 := f_v0.fr hw
    replace hO := hO.fr hw
    replace hA := hA.fr hw.size
    replace hF := hF.trans hw
    clear hs hF' hw
    refine seqR_nil ?_
    refine HT.cond (decide (y11 < ((gtD p0 y5).length : Int))) h21 (fun c14 => ?_) (fun c14 => ?_)
    ·have hr := cnd_t c14 hr
     refine HT.skip ?_
     refine HT.seq ?_
     refine HT.block ?_
     refine HT.seq ?_
     obtain ⟨e15, hr⟩ := ck_some hr
     obtain ⟨e16, hr⟩ := ck_some hr
     obtain ⟨e17, hr⟩ := ck_some hr
     obtain ⟨e18, hr⟩ := ck_some hr
     obtain ⟨x19, q20, hr⟩ := cl_some hr
     refine HT.draw (by kernel_rfl) (l := ⟨_, true, .raw v0⟩ :: ⟨_, true, .raw (.int .i64 y5)⟩ :: ⟨_, true, .qtr (eSl eStr) A (gtD p0 y5)⟩ :: ⟨_, true, .rep (eSl eStr) A (gtD p0 y5)⟩ :: ⟨_, true, .raw (.int .i64 y11)⟩ :: ⟨_, true, .rep (eSl eStr) A (subL (gtD p0 y5) 0 y11)⟩ :: ⟨_, true, .raw v0⟩ :: ⟨_, true, .raw (.int .i64 y5)⟩ :: ⟨_, true, .qtr (eSl eStr) A (gtD p0 y5)⟩ :: ⟨_, true, .rep (eSl eStr) A (gtD p0 y5)⟩ :: ⟨_, true, .raw (.int .i64 y11)⟩ :: ⟨_, true, .qtr eStr A (gtD (gtD p0 y5) y11)⟩ :: ⟨_, true, .rep eStr A (gtD (gtD p0 y5) y11)⟩ :: ⟨_, true, .raw (.bool x19)⟩ :: ⟨_, true, .raw (.bool (!x19))⟩ :: []) (tl := []) (by kernel_rfl) (by kernel_rfl) (by kernel_rfl) (by kernel_rfl) ?_ ?_
     ·exact
       Obls.p (fun R' w' hw hs hd => of_move ((hs 0 rfl).trans h0)) <|
       Obls.p (fun R' w' hw hs hd => of_move ((hs 4 rfl).trans h4)) <|
       Obls.p (fun R' w' hw hs hd => by have a0 : R' 24 = v0 := hd.g 0 rfl; have a1 : R' 25 = .int .i64 y5 := hd.g 1 rfl; have ra0 := (f_v0.fr hw).eq a0; exact of_indexAddr ra0 a1 Tryz.underlying86 Tryz.sizeOf25 e15) <|
       Obls.p (fun R' w' hw hs hd => by have a0 : QRep (eSl eStr) A w' (R' 26) (gtD p0 y5) := hd.g 0 rfl; exact (of_load a0.ptr Tryz.isAgg25 Tryz.sizeOf25)) <|
       Obls.p (fun R' w' hw hs hd => of_move ((hs 5 rfl).trans h5)) <|
       Obls.p (fun R' w' hw hs hd => by have a0 : Rep (eSl eStr) A w' (R' 27) (gtD p0 y5) := hd.g 0 rfl; have a1 : R' 28 = .int .i64 y11 := hd.g 1 rfl; exact of_slice_sl_hi a0 a1 Tryz.underlying25 Tryz.sizeOf9 e16) <|
       Obls.p (fun R' w' hw hs hd => of_move ((hs 0 rfl).trans h0)) <|
       Obls.p (fun R' w' hw hs hd => of_move ((hs 4 rfl).trans h4)) <|
       Obls.p (fun R' w' hw hs hd => by have a0 : R' 30 = v0 := hd.g 0 rfl; have a1 : R' 31 = .int .i64 y5 := hd.g 1 rfl; have ra0 := (f_v0.fr hw).eq a0; exact of_indexAddr ra0 a1 Tryz.underlying86 Tryz.sizeOf25 e17) <|
       Obls.p (fun R' w' hw hs hd => by have a0 : QRep (eSl eStr) A w' (R' 32) (gtD p0 y5) := hd.g 0 rfl; exact (of_load a0.ptr Tryz.isAgg25 Tryz.sizeOf25)) <|
       Obls.p (fun R' w' hw hs hd => of_move ((hs 5 rfl).trans h5)) <|
       Obls.p (fun R' w' hw hs hd => by have a0 : Rep (eSl eStr) A w' (R' 33) (gtD p0 y5) := hd.g 0 rfl; have a1 : R' 34 = .int .i64 y11 := hd.g 1 rfl; exact of_indexAddr a0 a1 Tryz.underlying25 Tryz.sizeOf9 e18) <|
       Obls.p (fun R' w' hw hs hd => by have a0 : QRep eStr A w' (R' 35) (gtD (gtD p0 y5) y11) := hd.g 0 rfl; exact (of_load a0.ptr Tryz.isAgg9 Tryz.sizeOf9)) <|
       Obls.p (fun R' w' hw hs hd => by have a0 : Rep (eSl eStr) A w' (R' 29) (subL (gtD p0 y5) 0 y11) := hd.g 0 rfl; have a1 : Rep eStr A w' (R' 36) (gtD (gtD p0 y5) y11) := hd.g 1 rfl; exact of_call Tryz.call55 (M_spec_l3Has_ok (q20 rfl) (hA.fr hw.size) a0 a1)) <|
       Obls.p (fun R' w' hw hs hd => by have a0 : R' 37 = .bool x19 := hd.g 0 rfl; exact of_not a0) <|
       Obls.nil
     intro R w hw hs hF'
     replace h0 := (hs 0 rfl).trans h0
     replace h3 := (hs 3 rfl).trans h3
     replace h4 := (hs 4 rfl).trans h4
     replace h5 := (hs 5 rfl).trans h5
     have h38 : R 38 = .bool (!x19) := hF' 14 _ _ rfl rfl rfl
     replace f_v0 := f_v0.fr hw
     replace hO := hO.fr hw
     replace hA := hA.fr hw.size
     replace hF := hF.trans hw
     clear hs hF' hw
     refine seqR_nil ?_
     refine HT.cond (!x19) h38 (fun c21 => ?_) (fun c21 => ?_)
     ·have hr := cnd_t c21 hr
      obtain ⟨e22, hr⟩ := ck_some hr
      obtain ⟨e23, hr⟩ := ck_some hr
      obtain ⟨x24, q25, hr⟩ := cl_some hr
      refine HT.textR [ob ul_ul_u1 (.vec w0.heap.size 9 eStr y12)] (⟨_, true, [], none, true, fun A => .raw ul_ul_u1⟩ :: ⟨_, true, [], none, true, fun A => .raw v0⟩ :: ⟨_, true, [], none, true, fun A => .raw (.int .i64 y5)⟩ :: ⟨_, true, [], none, true, fun A => .qtr (eSl eStr) A (gtD p0 y5)⟩ :: ⟨_, true, [], none, true, fun A => .rep (eSl eStr) A (gtD p0 y5)⟩ :: ⟨_, true, [], none, true, fun A => .raw (.int .i64 y11)⟩ :: ⟨_, true, [], none, true, fun A => .qtr eStr A (gtD (gtD p0 y5) y11)⟩ :: ⟨_, true, [], none, true, fun A => .rep eStr A (gtD (gtD p0 y5) y11)⟩ :: ⟨_, true, [0], some (.vec w0.heap.size 9 eStr x24), true, fun A => .any⟩ :: ⟨_, true, [9], some (.vec w0.heap.size 9 eStr x24), true, fun A => .any⟩ :: []) (by kernel_rfl) (by kernel_rfl) (Wf.mk' (by kernel_rfl) (UAll.cons ust_raw (UAll.cons ust_raw (UAll.cons ust_raw (UAll.cons ust_qtr (UAll.cons ust_rep (UAll.cons ust_raw (UAll.cons ust_qtr (UAll.cons ust_rep (UAll.cons ust_any (UAll.cons ust_any (UAll.nil))))))))))) (by kernel_rfl) (by kernel_rfl)) hO hA ?_ ?_
      ·exact
        OblsR.p (fun A' R' w' ho hd => of_move ((ho.old 3 rfl).trans h3)) <|
        OblsR.p (fun A' R' w' ho hd => of_move ((ho.old 0 rfl).trans h0)) <|
        OblsR.p (fun A' R' w' ho hd => of_move ((ho.old 4 rfl).trans h4)) <|
        OblsR.p (fun A' R' w' ho hd => by have a0 : R' 40 = v0 := hd.g 0 rfl; have a1 : R' 41 = .int .i64 y5 := hd.g 1 rfl; have ra0 := (f_v0.stp ho.stp).eq a0; exact of_indexAddr ra0 a1 Tryz.underlying86 Tryz.sizeOf25 e22) <|
        OblsR.p (fun A' R' w' ho hd => by have a0 : QRep (eSl eStr) A' w' (R' 42) (gtD p0 y5) := hd.g 0 rfl; exact (of_load a0.ptr Tryz.isAgg25 Tryz.sizeOf25)) <|
        OblsR.p (fun A' R' w' ho hd => of_move ((ho.old 5 rfl).trans h5)) <|
        OblsR.p (fun A' R' w' ho hd => by have a0 : Rep (eSl eStr) A' w' (R' 43) (gtD p0 y5) := hd.g 0 rfl; have a1 : R' 44 = .int .i64 y11 := hd.g 1 rfl; exact of_indexAddr a0 a1 Tryz.underlying25 Tryz.sizeOf9 e23) <|
        OblsR.p (fun A' R' w' ho hd => by have a0 : QRep eStr A' w' (R' 45) (gtD (gtD p0 y5) y11) := hd.g 0 rfl; exact (of_load a0.ptr Tryz.isAgg9 Tryz.sizeOf9)) <|
        OblsR.cons (OblR.took 0 _ _ rfl rfl rfl rfl rfl fun A' R' w' ho hd u hok hav hin hop hds => by have a0 : R' 39 = ul_ul_u1 := hd.g 0 rfl; have a1 : Rep eStr A' w' (R' 46) (gtD (gtD p0 y5) y11) := hd.g 1 rfl; have hu0 : evalR R' (.tmp 39) = u := a0.trans (hin _ rfl).symm; exact took_callm Tryz.call56 hav (by simp only [List.map, hu0]; exact M_spec_l3Put_ok (q25 rfl) (ho.av.sub _) (fun b o h => h.2) (Nat.le_trans hF.size ho.ch.size) (Vec.flat hok (fun _ _ _ _ _ h => h)) (a1.less fun b o h => h.1) rfl)) <|
        OblsR.cons (OblR.took 9 _ _ rfl rfl rfl rfl rfl fun A' R' w' ho hd u hok hav hin hop hds => by exact took_assign (hop _ _ rfl rfl rfl rfl).symm hok hav) <|
        OblsR.nil
      intro done ρ σ A R w hdn hI
      replace h0 : R 0 = v0 := (hI.reg rfl).trans h0
      replace h4 : R 4 = .int .i64 y5 := (hI.reg rfl).trans h4
      replace h5 : R 5 = .int .i64 y11 := (hI.reg rfl).trans h5
      obtain ⟨u26, e_u26⟩ : ∃ u, ρ 10 = u := ⟨_, rfl⟩
      have h3 : R 3 = u26 := (hI.opvR hdn 10 9 rfl rfl rfl rfl rfl).symm.trans e_u26
      replace f_v0 := f_v0.stp hI.stp
      replace hAA := hI.low' hAA hA0 (hO.ge (⟨rfl, trivial⟩))
      replace hF : Fr w0 w := hF.tr hI.ch (hO.ge (⟨rfl, trivial⟩))
      replace hO : IniOK [ob u26 (.vec w0.heap.size 9 eStr x24)] A w := hI.left hdn [(10, ob u26 (.vec w0.heap.size 9 eStr x24))] ⟨rfl, rfl, e_u26, rfl, rfl, trivial⟩
      replace hA := hI.avok
      clear hI
      obtain ⟨e27, hr⟩ := ck_some hr
      refine HT.text (l := ⟨_, true, .raw (.int .i64 y11)⟩ :: ⟨_, true, .raw (.int .i64 (y11 + (1 : Int)))⟩ :: ⟨_, true, .raw (.int .i64 (y11 + (1 : Int)))⟩ :: []) (tl := []) (by kernel_rfl) (by kernel_rfl) (by kernel_rfl) ?_ ?_
      ·exact
        Obls.p (fun R' w' hw hs hd => of_move ((hs 5 rfl).trans h5)) <|
        Obls.p (fun R' w' hw hs hd => by have a0 : R' 22 = .int .i64 y11 := hd.g 0 rfl; exact of_add a0 rfl e27) <|
        Obls.p (fun R' w' hw hs hd => by have a0 : R' 23 = .int .i64 (y11 + (1 : Int)) := hd.g 0 rfl; exact of_assign a0) <|
        Obls.nil
      intro R w hw hs hF'
      replace h0 := (hs 0 rfl).trans h0
      replace h3 := (hs 3 rfl).trans h3
      replace h4 := (hs 4 rfl).trans h4
      have h5 : R 5 = .int .i64 (y11 + (1 : Int)) := hF' 2 _ _ rfl rfl rfl
      replace f_v0 := f_v0.fr hw
      replace hO := hO.fr hw
      replace hA := hA.fr hw.size
      replace hF := hF.trans hw
      clear hs hF' hw
      refine seqR_nil ?_
      exact Exists.intro k (And.intro (Nat.lt_succ_self k) ⟨_, _, _, u26, hr, hA, hF, hAA, hO, h0, h3, h4, h5, f_v0⟩)
     ·have hr := cnd_f c21 hr
      refine HT.skip ?_
      obtain ⟨e28, hr⟩ := ck_some hr
      refine HT.text (l := ⟨_, true, .raw (.int .i64 y11)⟩ :: ⟨_, true, .raw (.int .i64 (y11 + (1 : Int)))⟩ :: ⟨_, true, .raw (.int .i64 (y11 + (1 : Int)))⟩ :: []) (tl := []) (by kernel_rfl) (by kernel_rfl) (by kernel_rfl) ?_ ?_
      ·exact
        Obls.p (fun R' w' hw hs hd => of_move ((hs 5 rfl).trans h5)) <|
        Obls.p (fun R' w' hw hs hd => by have a0 : R' 22 = .int .i64 y11 := hd.g 0 rfl; exact of_add a0 rfl e28) <|
        Obls.p (fun R' w' hw hs hd => by have a0 : R' 23 = .int .i64 (y11 + (1 : Int)) := hd.g 0 rfl; exact of_assign a0) <|
        Obls.nil
      intro R w hw hs hF'
      replace h0 := (hs 0 rfl).trans h0
      replace h3 := (hs 3 rfl).trans h3
      replace h4 := (hs 4 rfl).trans h4
      have h5 : R 5 = .int .i64 (y11 + (1 : Int)) := hF' 2 _ _ rfl rfl rfl
      replace f_v0 := f_v0.fr hw
      replace hO := hO.fr hw
      replace hA := hA.fr hw.size
      replace hF := hF.trans hw
      clear hs hF' hw
      refine seqR_nil ?_
      exact Exists.intro k (And.intro (Nat.lt_succ_self k) ⟨_, _, _, ul_ul_u1, hr, hA, hF, hAA, hO, h0, h3, h4, h5, f_v0⟩)
    ·have hr := cnd_f c14 hr
     refine HT.exit ?_
     obtain rfl := Option.some.inj hr
     exact Exists.intro _ ⟨_, ul_ul_u1, rfl, hA, hF, hAA, hO, h0, h3, h4, f_v0⟩
   rintro R w ⟨A, s10, uo_ul_u1, es, hA, hF, hAA, hO, h0, h3, h4, f_v0⟩
   obtain rfl := es.symm
   obtain ⟨e29, hr⟩ := ck_some hr
   refine HT.text (l := ⟨_, true, .raw (.int .i64 y5)⟩ :: ⟨_, true, .raw (.int .i64 (y5 + (1 : Int)))⟩ :: ⟨_, true, .raw (.int .i64 (y5 + (1 : Int)))⟩ :: []) (tl := []) (by kernel_rfl) (by kernel_rfl) (by kernel_rfl) ?_ ?_
   ·exact
     Obls.p (fun R' w' hw hs hd => of_move ((hs 4 rfl).trans h4)) <|
     Obls.p (fun R' w' hw hs hd => by have a0 : R' 13 = .int .i64 y5 := hd.g 0 rfl; exact of_add a0 rfl e29) <|
     Obls.p (fun R' w' hw hs hd => by have a0 : R' 14 = .int .i64 (y5 + (1 : Int)) := hd.g 0 rfl; exact of_assign a0) <|
     Obls.nil
   intro R w hw hs hF'
   replace h0 := (hs 0 rfl).trans h0
   replace h3 := (hs 3 rfl).trans h3
   have h4 : R 4 = .int .i64 (y5 + (1 : Int)) := hF' 2 _ _ rfl rfl rfl
   replace f_v0 := f_v0.fr hw
   replace hO := hO.fr hw
   replace hA := hA.fr hw.size
   replace hF := hF.trans hw
   clear hs hF' hw
   refine seqR_nil ?_
   exact Exists.intro k (And.intro (Nat.lt_succ_self k) ⟨_, _, _, uo_ul_u1, hr, hA, hF, hAA, hO, h0, h3, h4, f_v0⟩)
  ·have hr := cnd_f c7 hr
   refine HT.exit ?_
   obtain rfl := Option.some.inj hr
   exact Exists.intro _ ⟨_, ul_u1, rfl, hA, hF, hAA, hO, h3⟩
 rintro R w ⟨A, s4, uo_u1, es, hA, hF, hAA, hO, h3⟩
 obtain rfl := es.symm
 refine HT.seq ?_
 refine HT.textR [ob uo_u1 (.vec w0.heap.size 9 eStr s4)] (⟨_, true, [], some (.vec w0.heap.size 91 E_impl_TokenCount ([] : List T_impl_TokenCount)), true, fun A => .any⟩ :: ⟨_, true, [1], some (.vec w0.heap.size 91 E_impl_TokenCount ([] : List T_impl_TokenCount)), true, fun A => .any⟩ :: []) (by kernel_rfl) (by kernel_rfl) (Wf.mk' (by kernel_rfl) (UAll.cons ust_any (UAll.cons ust_any (UAll.nil))) (by kernel_rfl) (by kernel_rfl)) hO hA ?_ ?_
 ·exact
   OblsR.cons (OblR.made _ rfl rfl rfl rfl fun A' R' w' ho hd => by exact made_build [] (E := E_impl_TokenCount) trivial Tryz.underlying24 Tryz.sizeOf91 Tryz.zeroValue91 rfl rfl rfl (Nat.le_trans hF.size ho.ch.size)) <|
   OblsR.cons (OblR.took 1 _ _ rfl rfl rfl rfl rfl fun A' R' w' ho hd u hok hav hin hop hds => by exact took_assign (hop _ _ rfl rfl rfl rfl).symm hok hav) <|
   OblsR.nil
 intro done ρ σ A R w hdn hI
 replace h3 : R 3 = uo_u1 := (hI.reg rfl).trans h3
 have z30 := hI.inivR 0 rfl
 obtain ⟨u31, e_u31⟩ : ∃ u, ρ 2 = u := ⟨_, rfl⟩
 have h6 : R 6 = u31 := (hI.opvR hdn 2 1 rfl rfl rfl rfl rfl).symm.trans e_u31
 replace hAA := hI.low' hAA hA0 (hO.ge (⟨rfl, trivial⟩))
 replace hF : Fr w0 w := hF.tr hI.ch (hO.ge (⟨rfl, trivial⟩))
 replace hO : IniOK [ob uo_u1 (.vec w0.heap.size 9 eStr s4), ob u31 (.vec w0.heap.size 91 E_impl_TokenCount ([] : List T_impl_TokenCount))] A w := hI.left hdn [(0, ob uo_u1 (.vec w0.heap.size 9 eStr s4)), (2, ob u31 (.vec w0.heap.size 91 E_impl_TokenCount ([] : List T_impl_TokenCount)))] ⟨rfl, rfl, z30, rfl, rfl, ⟨rfl, rfl, e_u31, rfl, rfl, trivial⟩⟩
 replace hA := hI.avok
 clear hI
 refine HT.seq ?_
 refine HT.seq ?_
 refine HT.text (l := ⟨_, true, .raw (.int .i64 (0 : Int))⟩ :: []) (tl := []) (by kernel_rfl) (by kernel_rfl) (by kernel_rfl) ?_ ?_
 ·exact
   Obls.p (fun R' w' hw hs hd => of_assign rfl) <|
   Obls.nil
 intro R w hw hs hF'
 replace h3 := (hs 3 rfl).trans h3
 replace h6 := (hs 6 rfl).trans h6
 have h7 : R 7 = .int .i64 (0 : Int) := hF' 0 _ _ rfl rfl rfl
 replace hO := hO.fr hw
 replace hA := hA.fr hw.size
 replace hF := hF.trans hw
 clear hs hF' hw
 refine seqR_nil ?_
 obtain ⟨rl32, q33, hr⟩ := cl_some hr
 replace q33 := q33 rfl
 refine HT.cut0 (fun R w => ∃ A : Av, ∃ (s34 : (List T_impl_TokenCount)) (uo_u31 : Value), rl32 = s34 ∧ AvOK A w ∧ Fr w0 w ∧ (∀ b o, A0 b o → A b o) ∧ IniOK [ob uo_u31 (.vec w0.heap.size 91 E_impl_TokenCount s34)] A w ∧ R 6 = uo_u31) ?_ ?_
 ·refine HT.block ?_
  refine HT.loop (fun k R w => ∃ A : Av, ∃ (y35 : Int) (y36 : List T_impl_TokenCount) (ul_u31 : Value), M_spec_CountTokens_L2 fu s4 k y35 y36 = some rl32 ∧ AvOK A w ∧ Fr w0 w ∧ (∀ b o, A0 b o → A b o) ∧ IniOK [ob uo_u1 (.vec w0.heap.size 9 eStr s4), ob ul_u31 (.vec w0.heap.size 91 E_impl_TokenCount y36)] A w ∧ R 3 = uo_u1 ∧ R 6 = ul_u31 ∧ R 7 = .int .i64 y35) fu ⟨_, _, _, u31, q33, hA, hF, hAA, hO, h3, h6, h7⟩ ?_
  have hr0 := hr; clear hr q33
  rintro k R w ⟨A, y35, y36, ul_u31, hr, hA, hF, hAA, hO, h3, h6, h7⟩
  rcases k with _ | k
  ·cases (show none = some _ from hr)
  rw [M_spec_CountTokens_L2] at hr
  refine HT.seq ?_
  refine HT.seq ?_
  refine HT.text (l := ⟨_, true, .raw (.int .i64 y35)⟩ :: ⟨_, true, .raw uo_u1⟩ :: ⟨_, true, .raw (.int .i64 (s4.length : Int))⟩ :: ⟨_, true, .raw (.bool (decide (y35 < (s4.length : Int))))⟩ :: []) (tl := []) (by kernel_rfl) (by kernel_rfl) (by kernel_rfl) ?_ ?_
  ·exact
    Obls.p (fun R' w' hw hs hd => of_move ((hs 7 rfl).trans h7)) <|
    Obls.p (fun R' w' hw hs hd => of_move ((hs 3 rfl).trans h3)) <|
    Obls.p (fun R' w' hw hs hd => by have a0 : R' 50 = uo_u1 := hd.g 0 rfl; exact of_len_vec (hO.ok 0 _ rfl).1 a0 Tryz.underlying25) <|
    Obls.p (fun R' w' hw hs hd => by have a0 : R' 49 = .int .i64 y35 := hd.g 0 rfl; have a1 : R' 51 = .int .i64 (s4.length : Int) := hd.g 1 rfl; exact of_lss a0 a1) <|
    Obls.nil
  intro R w hw hs hF'
  replace h3 := (hs 3 rfl).trans h3
  replace h6 := (hs 6 rfl).trans h6
  replace h7 := (hs 7 rfl).trans h7
  have h52 : R 52 = .bool (decide (y35 < (s4.length : Int))) := hF' 3 _ _ rfl rfl rfl
  replace hO := hO.fr hw
  replace hA := hA.fr hw.size
  replace hF := hF.trans hw
  clear hs hF' hw
  refine seqR_nil ?_
  refine HT.cond (decide (y35 < (s4.length : Int))) h52 (fun c37 => ?_) (fun c37 => ?_)
  ·have hr := cnd_t c37 hr
   refine HT.skip ?_
   refine HT.seq ?_
   refine HT.block ?_
   refine HT.seq ?_
   obtain ⟨e38, hr⟩ := ck_some hr
   obtain ⟨e39, hr⟩ := ck_some hr
   obtain ⟨e40, hr⟩ := ck_some hr
   obtain ⟨x41, q42, hr⟩ := bd_some hr
   refine HT.draw (by kernel_rfl) (l := ⟨_, true, .raw (.int .i64 y35)⟩ :: ⟨_, true, .raw (.bool (decide ((0 : Int) < y35)))⟩ :: ⟨_, true, .raw (.bool (decide ((0 : Int) < y35)))⟩ :: ⟨_, (true && ((decide ((0 : Int) < y35)) == true)), .raw uo_u1⟩ :: ⟨_, (true && ((decide ((0 : Int) < y35)) == true)), .raw (.int .i64 y35)⟩ :: ⟨_, (true && ((decide ((0 : Int) < y35)) == true)), .raw (.int .i64 (y35 - (1 : Int)))⟩ :: ⟨_, (true && ((decide ((0 : Int) < y35)) == true)), .raw (vptr uo_u1 ((y35 - (1 : Int)).toNat * 1))⟩ :: ⟨_, (true && ((decide ((0 : Int) < y35)) == true)), .rep eStr A (gtD s4 (y35 - (1 : Int)))⟩ :: ⟨_, (true && ((decide ((0 : Int) < y35)) == true)), .raw uo_u1⟩ :: ⟨_, (true && ((decide ((0 : Int) < y35)) == true)), .raw (.int .i64 y35)⟩ :: ⟨_, (true && ((decide ((0 : Int) < y35)) == true)), .raw (vptr uo_u1 (y35.toNat * 1))⟩ :: ⟨_, (true && ((decide ((0 : Int) < y35)) == true)), .rep eStr A (gtD s4 y35)⟩ :: ⟨_, (true && ((decide ((0 : Int) < y35)) == true)), .raw (.bool ((gtD s4 (y35 - (1 : Int))) == (gtD s4 y35)))⟩ :: ⟨_, true, .raw (.bool x41)⟩ :: []) (tl := []) (by kernel_rfl) (by kernel_rfl) (by kernel_rfl) (by kernel_rfl) ?_ ?_
   ·exact
     Obls.p (fun R' w' hw hs hd => of_move ((hs 7 rfl).trans h7)) <|
     Obls.p (fun R' w' hw hs hd => by have a0 : R' 55 = .int .i64 y35 := hd.g 0 rfl; exact of_gtr a0 rfl) <|
     Obls.p (fun R' w' hw hs hd => by have a0 : R' 56 = .bool (decide ((0 : Int) < y35)) := hd.g 0 rfl; exact of_move a0) <|
     Obls.cons (Obl.grd 2 true _ _ _ rfl rfl rfl rfl rfl (by kernel_rfl) fun hg R' w' hw hs hd => by have a0 : R' 3 = uo_u1 := (hs 3 rfl).trans h3; exact of_move a0) <|
     Obls.cons (Obl.grd 2 true _ _ _ rfl rfl rfl rfl rfl (by kernel_rfl) fun hg R' w' hw hs hd => by have a0 : R' 7 = .int .i64 y35 := (hs 7 rfl).trans h7; exact of_move a0) <|
     Obls.cons (Obl.grd 2 true _ _ _ rfl rfl rfl rfl rfl (by kernel_rfl) fun hg R' w' hw hs hd => by have a0 : R' 59 = .int .i64 y35 := hd 0 _ _ _ rfl rfl rfl rfl hg; exact of_sub a0 rfl (gd e38 hg)) <|
     Obls.cons (Obl.grd 2 true _ _ _ rfl rfl rfl rfl rfl (by kernel_rfl) fun hg R' w' hw hs hd => by have a0 : R' 58 = uo_u1 := hd 0 _ _ _ rfl rfl rfl rfl hg; have a1 : R' 60 = .int .i64 (y35 - (1 : Int)) := hd 1 _ _ _ rfl rfl rfl rfl hg; exact of_indexAddr_vec (hO.ok 0 _ rfl).1 a0 a1 Tryz.underlying25 Tryz.sizeOf9 (gd e39 hg) rfl) <|
     Obls.cons (Obl.grd 2 true _ _ _ rfl rfl rfl rfl rfl (by kernel_rfl) fun hg R' w' hw hs hd => by have a0 : R' 61 = (vptr uo_u1 ((y35 - (1 : Int)).toNat * 1)) := hd 0 _ _ _ rfl rfl rfl rfl hg; exact (of_load_vec ((hO.fr hw).ok 0 _ rfl).1 a0 (gd e39 hg) rfl (Fld.id _) rfl Tryz.isAgg9 Tryz.sizeOf9)) <|
     Obls.cons (Obl.grd 2 true _ _ _ rfl rfl rfl rfl rfl (by kernel_rfl) fun hg R' w' hw hs hd => by have a0 : R' 3 = uo_u1 := (hs 3 rfl).trans h3; exact of_move a0) <|
     Obls.cons (Obl.grd 2 true _ _ _ rfl rfl rfl rfl rfl (by kernel_rfl) fun hg R' w' hw hs hd => by have a0 : R' 7 = .int .i64 y35 := (hs 7 rfl).trans h7; exact of_move a0) <|
     Obls.cons (Obl.grd 2 true _ _ _ rfl rfl rfl rfl rfl (by kernel_rfl) fun hg R' w' hw hs hd => by have a0 : R' 63 = uo_u1 := hd 0 _ _ _ rfl rfl rfl rfl hg; have a1 : R' 64 = .int .i64 y35 := hd 1 _ _ _ rfl rfl rfl rfl hg; exact of_indexAddr_vec (hO.ok 0 _ rfl).1 a0 a1 Tryz.underlying25 Tryz.sizeOf9 (gd e40 hg) rfl) <|
     Obls.cons (Obl.grd 2 true _ _ _ rfl rfl rfl rfl rfl (by kernel_rfl) fun hg R' w' hw hs hd => by have a0 : R' 65 = (vptr uo_u1 (y35.toNat * 1)) := hd 0 _ _ _ rfl rfl rfl rfl hg; exact (of_load_vec ((hO.fr hw).ok 0 _ rfl).1 a0 (gd e40 hg) rfl (Fld.id _) rfl Tryz.isAgg9 Tryz.sizeOf9)) <|
     Obls.cons (Obl.grd 2 true _ _ _ rfl rfl rfl rfl rfl (by kernel_rfl) fun hg R' w' hw hs hd => by have a0 : Rep eStr A w' (R' 62) (gtD s4 (y35 - (1 : Int))) := hd 0 _ _ _ rfl rfl rfl rfl hg; have a1 : Rep eStr A w' (R' 66) (gtD s4 y35) := hd 1 _ _ _ rfl rfl rfl rfl hg; exact of_seql a0 a1) <|
     Obls.p (fun R' w' hw hs hd => by have a0 : R' 57 = .bool (decide ((0 : Int) < y35)) := hd.g 0 rfl; exact of_pick (decide ((0 : Int) < y35)) a0 (fun hc => by have a1 : R' 67 = .bool ((gtD s4 (y35 - (1 : Int))) == (gtD s4 y35)) := hd 1 _ _ _ rfl rfl rfl rfl (g_and rfl (beq_of hc)); show _ = Value.bool x41; rw [q42, hc]; exact a1) (fun hc => by show _ = Value.bool x41; rw [q42, hc]; exact rfl)) <|
     Obls.nil
   intro R w hw hs hF'
   replace h3 := (hs 3 rfl).trans h3
   replace h6 := (hs 6 rfl).trans h6
   replace h7 := (hs 7 rfl).trans h7
   have h68 : R 68 = .bool x41 := hF' 13 _ _ rfl rfl rfl
   replace hO := hO.fr hw
   replace hA := hA.fr hw.size
   replace hF := hF.trans hw
   clear hs hF' hw
   refine seqR_nil ?_
   refine HT.cond x41 h68 (fun c43 => ?_) (fun c43 => ?_)
   ·have hr := cnd_t c43 hr
    obtain ⟨e44, hr⟩ := ck_some hr
    obtain ⟨e45, hr⟩ := ck_some hr
    obtain ⟨e46, hr⟩ := ck_some hr
    obtain ⟨e47, hr⟩ := ck_some hr
    obtain ⟨e48, hr⟩ := ck_some hr
    refine HT.textR [ob uo_u1 (.vec w0.heap.size 9 eStr s4), ob ul_u31 (.vec w0.heap.size 91 E_impl_TokenCount y36)] (⟨_, true, [], none, true, fun A => .raw ul_u31⟩ :: ⟨_, true, [], none, true, fun A => .raw ul_u31⟩ :: ⟨_, true, [], none, true, fun A => .raw (.int .i64 (y36.length : Int))⟩ :: ⟨_, true, [], none, true, fun A => .raw (.int .i64 ((y36.length : Int) - (1 : Int)))⟩ :: ⟨_, true, [], none, true, fun A => .raw ul_u31⟩ :: ⟨_, true, [], none, true, fun A => .raw ul_u31⟩ :: ⟨_, true, [], none, true, fun A => .raw (.int .i64 (y36.length : Int))⟩ :: ⟨_, true, [], none, true, fun A => .raw (.int .i64 ((y36.length : Int) - (1 : Int)))⟩ :: ⟨_, true, [], none, true, fun A => .raw (vptr ul_u31 (((y36.length : Int) - (1 : Int)).toNat * 2))⟩ :: ⟨_, true, [], none, true, fun A => .raw (vptr ul_u31 (((y36.length : Int) - (1 : Int)).toNat * 2 + 1))⟩ :: ⟨_, true, [], none, true, fun A => .raw (.int .i64 ((gtD y36 ((y36.length : Int) - (1 : Int))).2))⟩ :: ⟨_, true, [], none, true, fun A => .raw (.int .i64 (((gtD y36 ((y36.length : Int) - (1 : Int))).2) + (1 : Int)))⟩ :: ⟨_, true, [], none, true, fun A => .raw (vptr ul_u31 (((y36.length : Int) - (1 : Int)).toNat * 2))⟩ :: ⟨_, true, [], none, true, fun A => .raw (vptr ul_u31 (((y36.length : Int) - (1 : Int)).toNat * 2 + 1))⟩ :: ⟨_, true, [1], some (.vec w0.heap.size 91 E_impl_TokenCount (y36.set ((y36.length : Int) - (1 : Int)).toNat ((gtD y36 ((y36.length : Int) - (1 : Int))).1, (((gtD y36 ((y36.length : Int) - (1 : Int))).2) + (1 : Int))))), false, fun A => .any⟩ :: []) (by kernel_rfl) (by kernel_rfl) (Wf.mk' (by kernel_rfl) (UAll.cons ust_raw (UAll.cons ust_raw (UAll.cons ust_raw (UAll.cons ust_raw (UAll.cons ust_raw (UAll.cons ust_raw (UAll.cons ust_raw (UAll.cons ust_raw (UAll.cons ust_raw (UAll.cons ust_raw (UAll.cons ust_raw (UAll.cons ust_raw (UAll.cons ust_raw (UAll.cons ust_raw (UAll.cons ust_any (UAll.nil)))))))))))))))) (by kernel_rfl) (by kernel_rfl)) hO hA ?_ ?_
    ·exact
      OblsR.p (fun A' R' w' ho hd => of_move ((ho.old 6 rfl).trans h6)) <|
      OblsR.p (fun A' R' w' ho hd => of_move ((ho.old 6 rfl).trans h6)) <|
      OblsR.p (fun A' R' w' ho hd => by have a0 : R' 70 = ul_u31 := hd.g 0 rfl; exact of_len_vec (hO.ok 1 _ rfl).1 a0 Tryz.underlying24) <|
      OblsR.p (fun A' R' w' ho hd => by have a0 : R' 71 = .int .i64 (y36.length : Int) := hd.g 0 rfl; exact of_sub a0 rfl e44) <|
      OblsR.p (fun A' R' w' ho hd => of_move ((ho.old 6 rfl).trans h6)) <|
      OblsR.p (fun A' R' w' ho hd => of_move ((ho.old 6 rfl).trans h6)) <|
      OblsR.p (fun A' R' w' ho hd => by have a0 : R' 74 = ul_u31 := hd.g 0 rfl; exact of_len_vec (hO.ok 1 _ rfl).1 a0 Tryz.underlying24) <|
      OblsR.p (fun A' R' w' ho hd => by have a0 : R' 75 = .int .i64 (y36.length : Int) := hd.g 0 rfl; exact of_sub a0 rfl e45) <|
      OblsR.p (fun A' R' w' ho hd => by have a0 : R' 73 = ul_u31 := hd.g 0 rfl; have a1 : R' 76 = .int .i64 ((y36.length : Int) - (1 : Int)) := hd.g 1 rfl; exact of_indexAddr_vec (hO.ok 1 _ rfl).1 a0 a1 Tryz.underlying24 Tryz.sizeOf91 e46 rfl) <|
      OblsR.p (fun A' R' w' ho hd => by have a0 : R' 77 = (vptr ul_u31 (((y36.length : Int) - (1 : Int)).toNat * 2)) := hd.g 0 rfl; exact of_fieldAddr_vec (ho.rd 1 _ rfl rfl) (inR_ne e46) a0 ff_91_1 Tryz.sizeOf3 (by decide) rfl) <|
      OblsR.p (fun A' R' w' ho hd => by have a0 : R' 78 = (vptr ul_u31 (((y36.length : Int) - (1 : Int)).toNat * 2 + 1)) := hd.g 0 rfl; exact OpF.int (of_load_vec (ho.rd 1 _ rfl rfl) a0 e46 rfl fl_impl_TokenCount_1 rfl Tryz.isAgg3 Tryz.sizeOf3)) <|
      OblsR.p (fun A' R' w' ho hd => by have a0 : R' 79 = .int .i64 ((gtD y36 ((y36.length : Int) - (1 : Int))).2) := hd.g 0 rfl; exact of_add a0 rfl e47) <|
      OblsR.p (fun A' R' w' ho hd => by have a0 : R' 69 = ul_u31 := hd.g 0 rfl; have a1 : R' 72 = .int .i64 ((y36.length : Int) - (1 : Int)) := hd.g 1 rfl; exact of_indexAddr_vec (hO.ok 1 _ rfl).1 a0 a1 Tryz.underlying24 Tryz.sizeOf91 e48 rfl) <|
      OblsR.p (fun A' R' w' ho hd => by have a0 : R' 81 = (vptr ul_u31 (((y36.length : Int) - (1 : Int)).toNat * 2)) := hd.g 0 rfl; exact of_fieldAddr_vec (ho.rd 1 _ rfl rfl) (inR_ne e48) a0 ff_91_1 Tryz.sizeOf3 (by decide) rfl) <|
      OblsR.cons (OblR.took 1 _ _ rfl rfl rfl rfl rfl fun A' R' w' ho hd u hok hav hin hop hds => by have a0 : R' 82 = (vptr ul_u31 (((y36.length : Int) - (1 : Int)).toNat * 2 + 1)) := hd.g 0 rfl; have a1 : R' 80 = .int .i64 (((gtD y36 ((y36.length : Int) - (1 : Int))).2) + (1 : Int)) := hd.g 1 rfl; obtain rfl := hin _ rfl; exact took_vstore (rep_int.eq a1) hok hav a0 e48 rfl fs_impl_TokenCount_1 Tryz.sizeOf3 rfl) <|
      OblsR.nil
    intro done ρ σ A R w hdn hI
    replace h3 : R 3 = uo_u1 := (hI.reg rfl).trans h3
    replace h6 : R 6 = ul_u31 := (hI.reg rfl).trans h6
    replace h7 : R 7 = .int .i64 y35 := (hI.reg rfl).trans h7
    have z49 := hI.inivR 0 rfl
    have z50 := hI.inivR 1 rfl
    have z51 := (hI.opnR hdn 16 14 rfl rfl rfl rfl rfl).trans z50
    replace hAA := hI.low' hAA hA0 (hO.ge (⟨rfl, ⟨rfl, trivial⟩⟩))
    replace hF : Fr w0 w := hF.tr hI.ch (hO.ge (⟨rfl, ⟨rfl, trivial⟩⟩))
    replace hO : IniOK [ob uo_u1 (.vec w0.heap.size 9 eStr s4), ob ul_u31 (.vec w0.heap.size 91 E_impl_TokenCount (y36.set ((y36.length : Int) - (1 : Int)).toNat ((gtD y36 ((y36.length : Int) - (1 : Int))).1, (((gtD y36 ((y36.length : Int) - (1 : Int))).2) + (1 : Int)))))] A w := hI.left hdn [(0, ob uo_u1 (.vec w0.heap.size 9 eStr s4)), (16, ob ul_u31 (.vec w0.heap.size 91 E_impl_TokenCount (y36.set ((y36.length : Int) - (1 : Int)).toNat ((gtD y36 ((y36.length : Int) - (1 : Int))).1, (((gtD y36 ((y36.length : Int) - (1 : Int))).2) + (1 : Int))))))] ⟨rfl, rfl, z49, rfl, rfl, ⟨rfl, rfl, z51, rfl, rfl, trivial⟩⟩
    replace hA := hI.avok
    clear hI
    obtain ⟨e52, hr⟩ := ck_some hr
    refine HT.text (l := ⟨_, true, .raw (.int .i64 y35)⟩ :: ⟨_, true, .raw (.int .i64 (y35 + (1 : Int)))⟩ :: ⟨_, true, .raw (.int .i64 (y35 + (1 : Int)))⟩ :: []) (tl := []) (by kernel_rfl) (by kernel_rfl) (by kernel_rfl) ?_ ?_
    ·exact
      Obls.p (fun R' w' hw hs hd => of_move ((hs 7 rfl).trans h7)) <|
      Obls.p (fun R' w' hw hs hd => by have a0 : R' 53 = .int .i64 y35 := hd.g 0 rfl; exact of_add a0 rfl e52) <|
      Obls.p (fun R' w' hw hs hd => by have a0 : R' 54 = .int .i64 (y35 + (1 : Int)) := hd.g 0 rfl; exact of_assign a0) <|
      Obls.nil
    intro R w hw hs hF'
    replace h3 := (hs 3 rfl).trans h3
    replace h6 := (hs 6 rfl).trans h6
    have h7 : R 7 = .int .i64 (y35 + (1 : Int)) := hF' 2 _ _ rfl rfl rfl
    replace hO := hO.fr hw
    replace hA := hA.fr hw.size
    replace hF := hF.trans hw
    clear hs hF' hw
    refine seqR_nil ?_
    exact Exists.intro k (And.intro (Nat.lt_succ_self k) ⟨_, _, _, ul_u31, hr, hA, hF, hAA, hO, h3, h6, h7⟩)
   ·have hr := cnd_f c43 hr
    obtain ⟨e53, hr⟩ := ck_some hr
    obtain ⟨e55, hr⟩ := ck_some hr
    refine HT.textR [ob uo_u1 (.vec w0.heap.size 9 eStr s4), ob ul_u31 (.vec w0.heap.size 91 E_impl_TokenCount y36)] (⟨_, true, [], none, true, fun A => .raw ul_u31⟩ :: ⟨_, true, [], none, true, fun A => .raw uo_u1⟩ :: ⟨_, true, [], none, true, fun A => .raw (.int .i64 y35)⟩ :: ⟨_, true, [], none, true, fun A => .raw (vptr uo_u1 (y35.toNat * 1))⟩ :: ⟨_, true, [], none, true, fun A => .rep eStr A (gtD s4 y35)⟩ :: ⟨_, true, [], none, true, fun A => .rep E_impl_TokenCount A ((gtD s4 y35), (1 : Int))⟩ :: ⟨_, true, [], none, true, fun A => .rep (eSl E_impl_TokenCount) A ([((gtD s4 y35), (1 : Int))] : List T_impl_TokenCount)⟩ :: ⟨_, true, [1], some (.vec w0.heap.size 91 E_impl_TokenCount (y36 ++ ([((gtD s4 y35), (1 : Int))] : List T_impl_TokenCount))), true, fun A => .any⟩ :: ⟨_, true, [9], some (.vec w0.heap.size 91 E_impl_TokenCount (y36 ++ ([((gtD s4 y35), (1 : Int))] : List T_impl_TokenCount))), true, fun A => .any⟩ :: []) (by kernel_rfl) (by kernel_rfl) (Wf.mk' (by kernel_rfl) (UAll.cons ust_raw (UAll.cons ust_raw (UAll.cons ust_raw (UAll.cons ust_raw (UAll.cons ust_rep (UAll.cons ust_rep (UAll.cons ust_rep (UAll.cons ust_any (UAll.cons ust_any (UAll.nil)))))))))) (by kernel_rfl) (by kernel_rfl)) hO hA ?_ ?_
    ·exact
      OblsR.p (fun A' R' w' ho hd => of_move ((ho.old 6 rfl).trans h6)) <|
      OblsR.p (fun A' R' w' ho hd => of_move ((ho.old 3 rfl).trans h3)) <|
      OblsR.p (fun A' R' w' ho hd => of_move ((ho.old 7 rfl).trans h7)) <|
      OblsR.p (fun A' R' w' ho hd => by have a0 : R' 84 = uo_u1 := hd.g 0 rfl; have a1 : R' 85 = .int .i64 y35 := hd.g 1 rfl; exact of_indexAddr_vec (hO.ok 0 _ rfl).1 a0 a1 Tryz.underlying25 Tryz.sizeOf9 e53 rfl) <|
      OblsR.p (fun A' R' w' ho hd => by have a0 : R' 86 = (vptr uo_u1 (y35.toNat * 1)) := hd.g 0 rfl; exact (of_load_vec (ho.rd 0 _ rfl rfl) a0 e53 rfl (Fld.id _) rfl Tryz.isAgg9 Tryz.sizeOf9)) <|
      OblsR.p (fun A' R' w' ho hd => by have a0 : Rep eStr A' w' (R' 87) (gtD s4 y35) := hd.g 0 rfl; obtain ⟨c54s, c54, c54r⟩ := rep_str_val a0; exact of_build_raw (v := .agg #[.string c54s, .int .i64 (1 : Int)]) (by simp [execOp, Instr.build, evalR, c54, underlying, Tryz.underlying91, Tryz.zeroValue91, Tryz.sizeOf3, Tryz.sizeOf9, go_sem, Instr.fill]) ⟨_, rfl, rep_pr c54r rep1_int⟩) <|
      OblsR.p (fun A' R' w' ho hd => by have a0 : Rep E_impl_TokenCount A' w' (R' 88) ((gtD s4 y35), (1 : Int)) := hd.g 0 rfl; exact of_build [_] (E := E_impl_TokenCount) ⟨a0, trivial⟩ Tryz.underlying24 Tryz.sizeOf91 Tryz.zeroValue91 rfl rfl rfl ho.av) <|
      OblsR.cons (OblR.took 1 _ _ rfl rfl rfl rfl rfl fun A' R' w' ho hd u hok hav hin hop hds => by have a0 : R' 83 = ul_u31 := hd.g 0 rfl; have a1 : Rep (eSl E_impl_TokenCount) A' w' (R' 89) ([((gtD s4 y35), (1 : Int))] : List T_impl_TokenCount) := hd.g 1 rfl; exact took_append (a0.trans (hin _ rfl).symm) hok hav (Nat.le_trans hF.size ho.ch.size) a1 Tryz.underlying24 el_91 e55) <|
      OblsR.cons (OblR.took 9 _ _ rfl rfl rfl rfl rfl fun A' R' w' ho hd u hok hav hin hop hds => by exact took_assign (hop _ _ rfl rfl rfl rfl).symm hok hav) <|
      OblsR.nil
    intro done ρ σ A R w hdn hI
    replace h3 : R 3 = uo_u1 := (hI.reg rfl).trans h3
    replace h7 : R 7 = .int .i64 y35 := (hI.reg rfl).trans h7
    have z56 := hI.inivR 0 rfl
    obtain ⟨u57, e_u57⟩ : ∃ u, ρ 10 = u := ⟨_, rfl⟩
    have h6 : R 6 = u57 := (hI.opvR hdn 10 8 rfl rfl rfl rfl rfl).symm.trans e_u57
    replace hAA := hI.low' hAA hA0 (hO.ge (⟨rfl, ⟨rfl, trivial⟩⟩))
    replace hF : Fr w0 w := hF.tr hI.ch (hO.ge (⟨rfl, ⟨rfl, trivial⟩⟩))
    replace hO : IniOK [ob uo_u1 (.vec w0.heap.size 9 eStr s4), ob u57 (.vec w0.heap.size 91 E_impl_TokenCount (y36 ++ ([((gtD s4 y35), (1 : Int))] : List T_impl_TokenCount)))] A w := hI.left hdn [(0, ob uo_u1 (.vec w0.heap.size 9 eStr s4)), (10, ob u57 (.vec w0.heap.size 91 E_impl_TokenCount (y36 ++ ([((gtD s4 y35), (1 : Int))] : List T_impl_TokenCount))))] ⟨rfl, rfl, z56, rfl, rfl, ⟨rfl, rfl, e_u57, rfl, rfl, trivial⟩⟩
    replace hA := hI.avok
    clear hI
    obtain ⟨e58, hr⟩ := ck_some hr
    refine HT.text (l := ⟨_, true, .raw (.int .i64 y35)⟩ :: ⟨_, true, .raw (.int .i64 (y35 + (1 : Int)))⟩ :: ⟨_, true, .raw (.int .i64 (y35 + (1 : Int)))⟩ :: []) (tl := []) (by kernel_rfl) (by kernel_rfl) (by kernel_rfl) ?_ ?_
    ·exact
      Obls.p (fun R' w' hw hs hd => of_move ((hs 7 rfl).trans h7)) <|
      Obls.p (fun R' w' hw hs hd => by have a0 : R' 53 = .int .i64 y35 := hd.g 0 rfl; exact of_add a0 rfl e58) <|
      Obls.p (fun R' w' hw hs hd => by have a0 : R' 54 = .int .i64 (y35 + (1 : Int)) := hd.g 0 rfl; exact of_assign a0) <|
      Obls.nil
    intro R w hw hs hF'
    replace h3 := (hs 3 rfl).trans h3
    replace h6 := (hs 6 rfl).trans h6
    have h7 : R 7 = .int .i64 (y35 + (1 : Int)) := hF' 2 _ _ rfl rfl rfl
    replace hO := hO.fr hw
    replace hA := hA.fr hw.size
    replace hF := hF.trans hw
    clear hs hF' hw
    refine seqR_nil ?_
    exact Exists.intro k (And.intro (Nat.lt_succ_self k) ⟨_, _, _, u57, hr, hA, hF, hAA, hO, h3, h6, h7⟩)
  ·have hr := cnd_f c37 hr
   refine HT.exit ?_
   obtain rfl := Option.some.inj hr
   replace hO : IniOK [ob ul_u31 (.vec w0.heap.size 91 E_impl_TokenCount y36)] A w := hO.sub [(1, ob ul_u31 (.vec w0.heap.size 91 E_impl_TokenCount y36))] ⟨rfl, rfl, trivial⟩
   exact Exists.intro _ ⟨_, ul_u31, rfl, hA, hF, hAA, hO, h6⟩
 rintro R w ⟨A, s34, uo_u31, es, hA, hF, hAA, hO, h6⟩
 obtain rfl := es.symm
 refine HT.seq ?_
 refine HT.text (l := ⟨_, true, .raw uo_u31⟩ :: ⟨_, true, .raw uo_u31⟩ :: []) (tl := []) (by kernel_rfl) (by kernel_rfl) (by kernel_rfl) ?_ ?_
 ·exact
   Obls.p (fun R' w' hw hs hd => of_move ((hs 6 rfl).trans h6)) <|
   Obls.p (fun R' w' hw hs hd => by have a0 : R' 91 = uo_u31 := hd.g 0 rfl; exact of_assign a0) <|
   Obls.nil
 intro R w hw hs hF'
 have h2 : R 2 = uo_u31 := hF' 1 _ _ rfl rfl rfl
 replace hO := hO.fr hw
 replace hA := hA.fr hw.size
 replace hF := hF.trans hw
 clear hs hF' hw
 refine seqR_nil ?_
 refine HT.ret ?_
 obtain rfl := Option.some.inj hr
 exact ⟨.inr rfl, [R 2], ⟨rfl, trivial⟩, (own_post (hO.ok 0 _ rfl) hAA h2), hF⟩
theorem M_spec_CountTokens_okR {fu : Nat} {A0 : Av} {p0 : List (List (List UInt8))} {r : List T_impl_TokenCount} (hr : M_spec_CountTokens fu p0 = some r) {w : World} {v0 : Value} (hA : AvOK A0 w) (h0 : Rep (eSl (eSl eStr)) A0 w v0 p0) :
  Calls Tryz.prog 70 #[v0] w fun e w' => ∃ v, e = .returned v ∧ (Rep (eSl E_impl_TokenCount) A0 w' v r ∧ Fr w w') := by
 refine Calls.mono (M_spec_CountTokens_ok hr hA h0) ?_
 rintro e w' ⟨v, he, hv, hf⟩
 exact ⟨v, he, vec_rep hv (fun b o h => .inl h) hA, hf⟩
def M_spec_l1Once (fu : Nat) (p0 : T_spec_l1Cur) (p1 : Int) : Option (Bool × T_spec_l1Cur) :=
 cl true (M_spec_l1Below fu p0 p1) fun x2 =>
 some ((x2.1 == (0 : Int)), x2.2)
theorem M_spec_l1Once_ok {fu : Nat} {Aq : Av} {p0 : T_spec_l1Cur} {p1 : Int} {r : Bool × T_spec_l1Cur} (hr : M_spec_l1Once fu p0 p1 = some r) {w : World} {v0 : Value} {v1 : Value} {b0 B0 : Nat} (hA : AvOK Aq w) (h0 : v0 = .pointer (some ⟨b0, 0, none⟩)) (hO0 : IniOK [ob (.pointer (some ⟨b0, 0, none⟩)) (.box B0 84 E_spec_l1Cur p0)] Aq w) (h1 : v1 = .int .i64 p1) :
  Calls Tryz.prog 72 #[v0, v1] w fun e w' => ∃ v, e = .returned v ∧ (∃ (A1 : Av), GPost (subS Aq (ownsB (.pointer (some ⟨b0, 0, none⟩)))) (ownsB (.pointer (some ⟨b0, 0, none⟩))) w [ob (.pointer (some ⟨b0, 0, none⟩)) (.box B0 84 E_spec_l1Cur r.2)] A1 w' ∧ (Fact.raw (.bool r.1)).ok v w') := by
 unfold M_spec_l1Once at hr
 obtain ⟨w0, hw0⟩ : ∃ w0, w0 = w := ⟨_, rfl⟩
 have hF : Ch (ownsB (.pointer (some ⟨b0, 0, none⟩))) w0 w := hw0 ▸ Ch.refl _ _
 obtain ⟨A0, hA0e⟩ : ∃ A0, A0 = subS Aq (ownsB (.pointer (some ⟨b0, 0, none⟩))) := ⟨_, rfl⟩
 have hA0 : ∀ b o, A0 b o → b < w0.heap.size := fun b o h => hw0 ▸ hA b o (hA0e ▸ h : subS Aq _ b o).1
 have hN : ∀ b o, A0 b o → ¬ (ownsB (.pointer (some ⟨b0, 0, none⟩))) b := fun b o h => (hA0e ▸ h : subS Aq _ b o).2
 have hA00 : AvOK A0 w0 := hA0
 rw [show GPost (subS Aq (ownsB (.pointer (some ⟨b0, 0, none⟩)))) (ownsB (.pointer (some ⟨b0, 0, none⟩))) w = GPost A0 (ownsB (.pointer (some ⟨b0, 0, none⟩))) w0 from by rw [hA0e, hw0]]
 clear hw0
 obtain ⟨A, hAe⟩ : ∃ A, A = Aq := ⟨_, rfl⟩
 have hAA : ∀ b o, A0 b o → A b o := fun b o h => hAe ▸ (hA0e ▸ h : subS Aq _ b o).1
 replace hA : AvOK A w := hAe ▸ hA
 have hO : IniOK [ob (.pointer (some ⟨b0, 0, none⟩)) (.box B0 84 E_spec_l1Cur p0)] A w := hAe ▸ hO0
 clear hA0e hO0
 refine calls_of_HT2 [.tmp 4] Tryz.func72 Tryz.ntmps72 (by decide) rfl rfl (Nat.le_of_ble_eq_true rfl) ?_
 intro R hR
 replace h0 : R 0 = .pointer (some ⟨b0, 0, none⟩) := (hR 0 _ rfl).trans h0
 replace h1 : R 1 = .int .i64 p1 := (hR 1 _ rfl).trans h1
 clear hR hAe
 refine HT.seq ?_
 refine HT.text (l := ⟨_, true, .raw (.bool false)⟩ :: []) (tl := []) (by kernel_rfl) (by kernel_rfl) (by kernel_rfl) ?_ ?_
 ·exact
   Obls.p (fun R' w' hw hs hd => of_assign rfl) <|
   Obls.nil
 intro R w hw hs hF'
 replace h0 := (hs 0 rfl).trans h0
 replace h1 := (hs 1 rfl).trans h1
 replace hO := hO.fr hw
 replace hA := hA.fr hw.size
 replace hF := hF.tr (hw.ch noB) fun _ h => False.elim h
 clear hs hF' hw
 refine seqR_nil ?_
 refine HT.seq ?_
 refine SG.of ?_
 refine SG.textR [ob (.pointer (some ⟨b0, 0, none⟩)) (.box B0 84 E_spec_l1Cur p0)] (⟨_, true, [], none, true, fun A => .raw (.pointer (some ⟨b0, 0, none⟩))⟩ :: ⟨_, true, [], none, true, fun A => .raw (.int .i64 p1)⟩ :: []) 2 rfl rfl rfl (by kernel_rfl) (by kernel_rfl) (Wf.mk' (by kernel_rfl) (UAll.cons ust_raw (UAll.cons ust_raw (UAll.nil))) (by kernel_rfl) (by kernel_rfl)) hO hA (trivial) ?_ ?_
 ·exact
   OblsR.p (fun A' R' w' ho hd => of_move ((ho.old 0 rfl).trans h0)) <|
   OblsR.p (fun A' R' w' ho hd => of_move ((ho.old 1 rfl).trans h1)) <|
   OblsR.nil
 intro done ρ σ A R w hdn hI
 have z1 := hI.inivR 0 rfl
 have h5 : R 5 = (.pointer (some ⟨b0, 0, none⟩)) := hI.fact hdn (i := 0) rfl rfl rfl
 have h6 : R 6 = .int .i64 p1 := hI.fact hdn (i := 1) rfl rfl rfl
 replace hAA := hI.lowK hAA hA0 hN (hO.geK (⟨.inr (fun k h => .inr h), trivial⟩))
 replace hF : Ch (ownsB (.pointer (some ⟨b0, 0, none⟩))) w0 w := hF.tr hI.ch (hO.geK (⟨.inr (fun k h => .inr h), trivial⟩))
 replace hO : IniOK [ob (.pointer (some ⟨b0, 0, none⟩)) (.box B0 84 E_spec_l1Cur p0)] A w := hI.left hdn [(0, ob (.pointer (some ⟨b0, 0, none⟩)) (.box B0 84 E_spec_l1Cur p0))] ⟨rfl, rfl, z1, rfl, rfl, trivial⟩
 replace hA := hI.avok
 clear hI
 obtain ⟨x2, q3, hr⟩ := cl_some hr
 have hFz : w0.heap.size ≤ w.heap.size := hF.size
 refine SG.op 7 rfl rfl rfl rfl (call_run Tryz.call73 (M_spec_l1Below_ok (q3 rfl) hA h5 (hO.sub [(0, ob (.pointer (some ⟨b0, 0, none⟩)) (.box B0 84 E_spec_l1Cur p0))] ⟨rfl, rfl, trivial⟩) h6)) ?_
 rintro v_ w ⟨A, hG1, hv⟩ R hs hd
 have hst := stp_call hA hG1 (hO.ok 0 _ rfl).2
 replace hAA : ∀ b o, A0 b o → A b o := low_callK hAA hA0 hN (hO.geK (⟨.inr (fun k h => .inr h), trivial⟩)) 0 rfl hG1
 replace hF : Ch (ownsB (.pointer (some ⟨b0, 0, none⟩))) w0 w := hF.tr hG1.ch (fun k hk => (hO.geK (⟨.inr (fun k h => .inr h), trivial⟩)) k ⟨0, _, rfl, hk⟩)
 replace hO := GPost.next hO hA 0 rfl hG1
 replace hA := hG1.avok
 replace hO : IniOK [ob (.pointer (some ⟨b0, 0, none⟩)) (.box B0 84 E_spec_l1Cur x2.2)] A w := hO
 replace h5 := (hs 5 rfl).trans h5
 replace h6 := (hs 6 rfl).trans h6
 have h7 : R 7 = .int .i64 x2.1 := hd.trans hv
 clear hFz hG1 hv hs hd
 refine SG.textR [ob (.pointer (some ⟨b0, 0, none⟩)) (.box B0 84 E_spec_l1Cur x2.2)] (⟨_, true, [], none, true, fun A => .raw (.pointer (some ⟨b0, 0, none⟩))⟩ :: ⟨_, true, [], none, true, fun A => .raw (.int .i64 p1)⟩ :: ⟨_, true, [], none, true, fun A => .raw (.int .i64 x2.1)⟩ :: ⟨_, true, [], none, true, fun A => .raw (.bool (x2.1 == (0 : Int)))⟩ :: ⟨_, true, [], none, true, fun A => .raw (.bool (x2.1 == (0 : Int)))⟩ :: []) 5 rfl rfl rfl (by kernel_rfl) (by kernel_rfl) (Wf.mk' (by kernel_rfl) (UAll.cons ust_raw (UAll.cons ust_raw (UAll.cons ust_raw (UAll.cons ust_raw (UAll.cons ust_raw (UAll.nil)))))) (by kernel_rfl) (by kernel_rfl)) hO hA (⟨⟨rfl, rfl, rfl, h5⟩, ⟨⟨rfl, rfl, rfl, h6⟩, ⟨⟨rfl, rfl, rfl, h7⟩, trivial⟩⟩⟩) ?_ ?_
 ·exact
   OblsR.p (fun A' R' w' ho hd => by have a0 : R' 7 = .int .i64 x2.1 := hd.g 0 rfl; exact of_eql a0 rfl) <|
   OblsR.p (fun A' R' w' ho hd => by have a0 : R' 8 = .bool (x2.1 == (0 : Int)) := hd.g 0 rfl; exact of_assign a0) <|
   OblsR.nil
 intro done ρ σ A R w hdn hI
 have z4 := hI.inivR 0 rfl
 have h4 : R 4 = .bool (x2.1 == (0 : Int)) := hI.fact hdn (i := 4) rfl rfl rfl
 replace hAA := hI.lowK hAA hA0 hN (hO.geK (⟨.inr (fun k h => .inr h), trivial⟩))
 replace hF : Ch (ownsB (.pointer (some ⟨b0, 0, none⟩))) w0 w := hF.tr hI.ch (hO.geK (⟨.inr (fun k h => .inr h), trivial⟩))
 replace hO : IniOK [ob (.pointer (some ⟨b0, 0, none⟩)) (.box B0 84 E_spec_l1Cur x2.2)] A w := hI.left hdn [(0, ob (.pointer (some ⟨b0, 0, none⟩)) (.box B0 84 E_spec_l1Cur x2.2))] ⟨rfl, rfl, z4, rfl, rfl, trivial⟩
 replace hA := hI.avok
 clear hI
 refine SG.fin rfl ?_
 refine HT.ret ?_
 obtain rfl := Option.some.inj hr
 obtain ⟨A1, hA1, hG1⟩ := GPost.of hO hA hAA (hO.geK (⟨.inr (fun k h => .inr h), trivial⟩)) hF
 exact ⟨.inr rfl, [R 4], ⟨rfl, trivial⟩, A1, hG1, h4⟩
def M_spec_l11Table (fu : Nat) (p0 : T_spec_l1Cur) : Option ((List T_impl_TokenCount) × T_spec_l1Cur) :=
 cl true (M_spec_l11Sets fu p0) fun x2 =>
 cl true (M_spec_CountTokens fu x2.1) fun x5 =>
 cl true (M_spec_l1Once fu x2.2 (14 : Int)) fun x11 =>
 bif x11.1 then (
  cl true (M_spec_l1Below fu x11.2 (2 : Int)) fun x16 =>
  ck (lenOK (x5.length + ([(([97] : List UInt8), x16.1)] : List T_impl_TokenCount).length)) <|
  some ((x5 ++ ([(([97] : List UInt8), x16.1)] : List T_impl_TokenCount)), x16.2)
 ) else (
  some (x5, x11.2)
 )
set_option linter.unusedSimpArgs false in
theorem M_spec_l11Table_ok {fu : Nat} {Aq : Av} {p0 : T_spec_l1Cur} {r : (List T_impl_TokenCount) × T_spec_l1Cur} (hr : M_spec_l11Table fu p0 = some r) {w : World} {v0 : Value} {b0 B0 : Nat} (hA : AvOK Aq w) (h0 : v0 = .pointer (some ⟨b0, 0, none⟩)) (hO0 : IniOK [ob (.pointer (some ⟨b0, 0, none⟩)) (.box B0 84 E_spec_l1Cur p0)] Aq w) :
  Calls Tryz.prog 37 #[v0] w fun e w' => ∃ v, e = .returned v ∧ (∃ (u0 : Value) (A1 : Av), GPost (subS Aq (ownsB (.pointer (some ⟨b0, 0, none⟩)))) (ownsB (.pointer (some ⟨b0, 0, none⟩))) w [ob (.pointer (some ⟨b0, 0, none⟩)) (.box B0 84 E_spec_l1Cur r.2), ob u0 (.vec w.heap.size 91 E_impl_TokenCount r.1)] A1 w' ∧ (Fact.raw u0).ok v w') := by
 unfold M_spec_l11Table at hr
 obtain ⟨w0, hw0⟩ : ∃ w0, w0 = w := ⟨_, rfl⟩
 have hF : Ch (ownsB (.pointer (some ⟨b0, 0, none⟩))) w0 w := hw0 ▸ Ch.refl _ _
 obtain ⟨A0, hA0e⟩ : ∃ A0, A0 = subS Aq (ownsB (.pointer (some ⟨b0, 0, none⟩))) := ⟨_, rfl⟩
 have hA0 : ∀ b o, A0 b o → b < w0.heap.size := fun b o h => hw0 ▸ hA b o (hA0e ▸ h : subS Aq _ b o).1
 have hN : ∀ b o, A0 b o → ¬ (ownsB (.pointer (some ⟨b0, 0, none⟩))) b := fun b o h => (hA0e ▸ h : subS Aq _ b o).2
 have hA00 : AvOK A0 w0 := hA0
 rw [show GPost (subS Aq (ownsB (.pointer (some ⟨b0, 0, none⟩)))) (ownsB (.pointer (some ⟨b0, 0, none⟩))) w = GPost A0 (ownsB (.pointer (some ⟨b0, 0, none⟩))) w0 from by rw [hA0e, hw0]]
 rw [show w.heap.size = w0.heap.size from by rw [hw0]]
 clear hw0
 obtain ⟨A, hAe⟩ : ∃ A, A = Aq := ⟨_, rfl⟩
 have hAA : ∀ b o, A0 b o → A b o := fun b o h => hAe ▸ (hA0e ▸ h : subS Aq _ b o).1
 replace hA : AvOK A w := hAe ▸ hA
 have hO : IniOK [ob (.pointer (some ⟨b0, 0, none⟩)) (.box B0 84 E_spec_l1Cur p0)] A w := hAe ▸ hO0
 clear hA0e hO0
 refine calls_of_HT2 [.tmp 2] Tryz.func37 Tryz.ntmps37 (by decide) rfl rfl (Nat.le_of_ble_eq_true rfl) ?_
 intro R hR
 replace h0 : R 0 = .pointer (some ⟨b0, 0, none⟩) := (hR 0 _ rfl).trans h0
 clear hR hAe
 refine HT.seq ?_
 refine HT.text (l := ⟨_, true, .any⟩ :: []) (tl := []) (by kernel_rfl) (by kernel_rfl) (by kernel_rfl) ?_ ?_
 ·exact
   Obls.p (fun R' w' hw hs hd => of_assign trivial) <|
   Obls.nil
 intro R w hw hs hF'
 replace h0 := (hs 0 rfl).trans h0
 replace hO := hO.fr hw
 replace hA := hA.fr hw.size
 replace hF := hF.tr (hw.ch noB) fun _ h => False.elim h
 clear hs hF' hw
 refine seqR_nil ?_
 refine HT.seq ?_
 refine SG.of ?_
 refine SG.textR [ob (.pointer (some ⟨b0, 0, none⟩)) (.box B0 84 E_spec_l1Cur p0)] (⟨_, true, [], none, true, fun A => .raw (.pointer (some ⟨b0, 0, none⟩))⟩ :: []) 1 rfl rfl rfl (by kernel_rfl) (by kernel_rfl) (Wf.mk' (by kernel_rfl) (UAll.cons ust_raw (UAll.nil)) (by kernel_rfl) (by kernel_rfl)) hO hA (trivial) ?_ ?_
 ·exact
   OblsR.p (fun A' R' w' ho hd => of_move ((ho.old 0 rfl).trans h0)) <|
   OblsR.nil
 intro done ρ σ A R w hdn hI
 replace h0 : R 0 = (.pointer (some ⟨b0, 0, none⟩)) := (hI.reg rfl).trans h0
 have z1 := hI.inivR 0 rfl
 have h4 : R 4 = (.pointer (some ⟨b0, 0, none⟩)) := hI.fact hdn (i := 0) rfl rfl rfl
 replace hAA := hI.lowK hAA hA0 hN (hO.geK (⟨.inr (fun k h => .inr h), trivial⟩))
 replace hF : Ch (ownsB (.pointer (some ⟨b0, 0, none⟩))) w0 w := hF.tr hI.ch (hO.geK (⟨.inr (fun k h => .inr h), trivial⟩))
 replace hO : IniOK [ob (.pointer (some ⟨b0, 0, none⟩)) (.box B0 84 E_spec_l1Cur p0)] A w := hI.left hdn [(0, ob (.pointer (some ⟨b0, 0, none⟩)) (.box B0 84 E_spec_l1Cur p0))] ⟨rfl, rfl, z1, rfl, rfl, trivial⟩
 replace hA := hI.avok
 clear hI
 obtain ⟨x2, q3, hr⟩ := cl_some hr
 have hFz : w0.heap.size ≤ w.heap.size := hF.size
 refine SG.op 5 rfl rfl rfl rfl (call_run Tryz.call71 (M_spec_l11Sets_ok (q3 rfl) hA h4 (hO.sub [(0, ob (.pointer (some ⟨b0, 0, none⟩)) (.box B0 84 E_spec_l1Cur p0))] ⟨rfl, rfl, trivial⟩))) ?_
 rintro v_ w ⟨u4, A, hG1, hv⟩ R hs hd
 have hst := stp_call hA hG1 (hO.ok 0 _ rfl).2
 replace hAA : ∀ b o, A0 b o → A b o := low_callK hAA hA0 hN (hO.geK (⟨.inr (fun k h => .inr h), trivial⟩)) 0 rfl hG1
 replace hF : Ch (ownsB (.pointer (some ⟨b0, 0, none⟩))) w0 w := hF.tr hG1.ch (fun k hk => (hO.geK (⟨.inr (fun k h => .inr h), trivial⟩)) k ⟨0, _, rfl, hk⟩)
 replace hO := GPost.next hO hA 0 rfl hG1
 replace hA := hG1.avok
 replace hO := hO.reV (B' := w0.heap.size) 1 rfl hFz
 replace hO : IniOK [ob (.pointer (some ⟨b0, 0, none⟩)) (.box B0 84 E_spec_l1Cur x2.2), ob u4 (.vec w0.heap.size 25 (eSl eStr) x2.1)] A w := hO
 replace h0 := (hs 0 rfl).trans h0
 replace h4 := (hs 4 rfl).trans h4
 have h5 : R 5 = u4 := hd.trans hv
 clear hFz hG1 hv hs hd
 replace hO : IniOK [ob u4 (.vec w0.heap.size 25 (eSl eStr) x2.1), ob (.pointer (some ⟨b0, 0, none⟩)) (.box B0 84 E_spec_l1Cur x2.2)] A w := hO.sub [(1, ob u4 (.vec w0.heap.size 25 (eSl eStr) x2.1)), (0, ob (.pointer (some ⟨b0, 0, none⟩)) (.box B0 84 E_spec_l1Cur x2.2))] ⟨rfl, rfl, ⟨rfl, rfl, trivial⟩⟩
 obtain ⟨A, hle, hAA, hA, hO, f_u4⟩ := hO.freeze hA hAA hA0
 clear hle
 obtain ⟨x5, q6, hr⟩ := cl_some hr
 refine SG.textR [ob (.pointer (some ⟨b0, 0, none⟩)) (.box B0 84 E_spec_l1Cur x2.2)] (⟨_, true, [], none, true, fun A => .raw (.pointer (some ⟨b0, 0, none⟩))⟩ :: ⟨_, true, [], none, true, fun A => .raw u4⟩ :: ⟨_, true, [], some (.vec w0.heap.size 91 E_impl_TokenCount x5), true, fun A => .any⟩ :: ⟨_, true, [3], some (.vec w0.heap.size 91 E_impl_TokenCount x5), true, fun A => .any⟩ :: []) 4 rfl rfl rfl (by kernel_rfl) (by kernel_rfl) (Wf.mk' (by kernel_rfl) (UAll.cons ust_raw (UAll.cons ust_raw (UAll.cons ust_any (UAll.cons ust_any (UAll.nil))))) (by kernel_rfl) (by kernel_rfl)) hO hA (⟨⟨rfl, rfl, rfl, h4⟩, ⟨⟨rfl, rfl, rfl, h5⟩, trivial⟩⟩) ?_ ?_
 ·exact
   OblsR.cons (OblR.made _ rfl rfl rfl rfl fun A' R' w' ho hd => by have a0 : R' 5 = u4 := hd.g 0 rfl; have ra0 := (f_u4.stp ho.stp).eq a0; exact made_call Tryz.call70 (M_spec_CountTokens_ok (q6 rfl) ho.av ra0) (Nat.le_trans hF.size ho.ch.size)) <|
   OblsR.cons (OblR.took 3 _ _ rfl rfl rfl rfl rfl fun A' R' w' ho hd u hok hav hin hop hds => by exact took_assign (hop _ _ rfl rfl rfl rfl).symm hok hav) <|
   OblsR.nil
 intro done ρ σ A R w hdn hI
 replace h0 : R 0 = (.pointer (some ⟨b0, 0, none⟩)) := (hI.reg rfl).trans h0
 have z7 := hI.inivR 0 rfl
 obtain ⟨u8, e_u8⟩ : ∃ u, ρ 4 = u := ⟨_, rfl⟩
 have h3 : R 3 = u8 := (hI.opvR hdn 4 3 rfl rfl rfl rfl rfl).symm.trans e_u8
 replace hAA := hI.lowK hAA hA0 hN (hO.geK (⟨.inr (fun k h => .inr h), trivial⟩))
 replace hF : Ch (ownsB (.pointer (some ⟨b0, 0, none⟩))) w0 w := hF.tr hI.ch (hO.geK (⟨.inr (fun k h => .inr h), trivial⟩))
 replace hO : IniOK [ob (.pointer (some ⟨b0, 0, none⟩)) (.box B0 84 E_spec_l1Cur x2.2), ob u8 (.vec w0.heap.size 91 E_impl_TokenCount x5)] A w := hI.left hdn [(0, ob (.pointer (some ⟨b0, 0, none⟩)) (.box B0 84 E_spec_l1Cur x2.2)), (4, ob u8 (.vec w0.heap.size 91 E_impl_TokenCount x5))] ⟨rfl, rfl, z7, rfl, rfl, ⟨rfl, rfl, e_u8, rfl, rfl, trivial⟩⟩
 replace hA := hI.avok
 clear hI
 refine SG.fin rfl ?_
 refine HT.seq ?_
 refine HT.seq ?_
 refine SG.of ?_
 refine SG.textR [ob (.pointer (some ⟨b0, 0, none⟩)) (.box B0 84 E_spec_l1Cur x2.2), ob u8 (.vec w0.heap.size 91 E_impl_TokenCount x5)] (⟨_, true, [], none, true, fun A => .raw (.pointer (some ⟨b0, 0, none⟩))⟩ :: []) 1 rfl rfl rfl (by kernel_rfl) (by kernel_rfl) (Wf.mk' (by kernel_rfl) (UAll.cons ust_raw (UAll.nil)) (by kernel_rfl) (by kernel_rfl)) hO hA (trivial) ?_ ?_
 ·exact
   OblsR.p (fun A' R' w' ho hd => of_move ((ho.old 0 rfl).trans h0)) <|
   OblsR.nil
 intro done ρ σ A R w hdn hI
 replace h0 : R 0 = (.pointer (some ⟨b0, 0, none⟩)) := (hI.reg rfl).trans h0
 replace h3 : R 3 = u8 := (hI.reg rfl).trans h3
 have z9 := hI.inivR 0 rfl
 have z10 := hI.inivR 1 rfl
 have h7 : R 7 = (.pointer (some ⟨b0, 0, none⟩)) := hI.fact hdn (i := 0) rfl rfl rfl
 replace hAA := hI.lowK hAA hA0 hN (hO.geK (⟨.inr (fun k h => .inr h), ⟨.inl rfl, trivial⟩⟩))
 replace hF : Ch (ownsB (.pointer (some ⟨b0, 0, none⟩))) w0 w := hF.tr hI.ch (hO.geK (⟨.inr (fun k h => .inr h), ⟨.inl rfl, trivial⟩⟩))
 replace hO : IniOK [ob (.pointer (some ⟨b0, 0, none⟩)) (.box B0 84 E_spec_l1Cur x2.2), ob u8 (.vec w0.heap.size 91 E_impl_TokenCount x5)] A w := hI.left hdn [(0, ob (.pointer (some ⟨b0, 0, none⟩)) (.box B0 84 E_spec_l1Cur x2.2)), (1, ob u8 (.vec w0.heap.size 91 E_impl_TokenCount x5))] ⟨rfl, rfl, z9, rfl, rfl, ⟨rfl, rfl, z10, rfl, rfl, trivial⟩⟩
 replace hA := hI.avok
 clear hI
 obtain ⟨x11, q12, hr⟩ := cl_some hr
 have hFz : w0.heap.size ≤ w.heap.size := hF.size
 refine SG.op 8 rfl rfl rfl rfl (call_run Tryz.call72 (M_spec_l1Once_ok (q12 rfl) hA h7 (hO.sub [(0, ob (.pointer (some ⟨b0, 0, none⟩)) (.box B0 84 E_spec_l1Cur x2.2))] ⟨rfl, rfl, trivial⟩) rfl)) ?_
 rintro v_ w ⟨A, hG1, hv⟩ R hs hd
 have hst := stp_call hA hG1 (hO.ok 0 _ rfl).2
 replace hAA : ∀ b o, A0 b o → A b o := low_callK hAA hA0 hN (hO.geK (⟨.inr (fun k h => .inr h), ⟨.inl rfl, trivial⟩⟩)) 0 rfl hG1
 replace hF : Ch (ownsB (.pointer (some ⟨b0, 0, none⟩))) w0 w := hF.tr hG1.ch (fun k hk => (hO.geK (⟨.inr (fun k h => .inr h), ⟨.inl rfl, trivial⟩⟩)) k ⟨0, _, rfl, hk⟩)
 replace hO := GPost.next hO hA 0 rfl hG1
 replace hA := hG1.avok
 replace hO : IniOK [ob (.pointer (some ⟨b0, 0, none⟩)) (.box B0 84 E_spec_l1Cur x11.2), ob u8 (.vec w0.heap.size 91 E_impl_TokenCount x5)] A w := hO
 replace h0 := (hs 0 rfl).trans h0
 replace h3 := (hs 3 rfl).trans h3
 replace h7 := (hs 7 rfl).trans h7
 have h8 : R 8 = .bool x11.1 := hd.trans hv
 clear hFz hG1 hv hs hd
 refine SG.fin rfl ?_
 refine HT.cond x11.1 h8 (fun c13 => ?_) (fun c13 => ?_)
 ·have hr := cnd_t c13 hr
  refine SG.of ?_
  refine SG.textR [ob (.pointer (some ⟨b0, 0, none⟩)) (.box B0 84 E_spec_l1Cur x11.2), ob u8 (.vec w0.heap.size 91 E_impl_TokenCount x5)] (⟨_, true, [], none, true, fun A => .raw u8⟩ :: ⟨_, true, [], none, true, fun A => .raw (.pointer (some ⟨b0, 0, none⟩))⟩ :: []) 2 rfl rfl rfl (by kernel_rfl) (by kernel_rfl) (Wf.mk' (by kernel_rfl) (UAll.cons ust_raw (UAll.cons ust_raw (UAll.nil))) (by kernel_rfl) (by kernel_rfl)) hO hA (trivial) ?_ ?_
  ·exact
    OblsR.p (fun A' R' w' ho hd => of_move ((ho.old 3 rfl).trans h3)) <|
    OblsR.p (fun A' R' w' ho hd => of_move ((ho.old 0 rfl).trans h0)) <|
    OblsR.nil
  intro done ρ σ A R w hdn hI
  replace h3 : R 3 = u8 := (hI.reg rfl).trans h3
  have z14 := hI.inivR 0 rfl
  have z15 := hI.inivR 1 rfl
  have h9 : R 9 = u8 := hI.fact hdn (i := 0) rfl rfl rfl
  have h10 : R 10 = (.pointer (some ⟨b0, 0, none⟩)) := hI.fact hdn (i := 1) rfl rfl rfl
  replace hAA := hI.lowK hAA hA0 hN (hO.geK (⟨.inr (fun k h => .inr h), ⟨.inl rfl, trivial⟩⟩))
  replace hF : Ch (ownsB (.pointer (some ⟨b0, 0, none⟩))) w0 w := hF.tr hI.ch (hO.geK (⟨.inr (fun k h => .inr h), ⟨.inl rfl, trivial⟩⟩))
  replace hO : IniOK [ob (.pointer (some ⟨b0, 0, none⟩)) (.box B0 84 E_spec_l1Cur x11.2), ob u8 (.vec w0.heap.size 91 E_impl_TokenCount x5)] A w := hI.left hdn [(0, ob (.pointer (some ⟨b0, 0, none⟩)) (.box B0 84 E_spec_l1Cur x11.2)), (1, ob u8 (.vec w0.heap.size 91 E_impl_TokenCount x5))] ⟨rfl, rfl, z14, rfl, rfl, ⟨rfl, rfl, z15, rfl, rfl, trivial⟩⟩
  replace hA := hI.avok
  clear hI
  obtain ⟨x16, q17, hr⟩ := cl_some hr
  have hFz : w0.heap.size ≤ w.heap.size := hF.size
  refine SG.op 11 rfl rfl rfl rfl (call_run Tryz.call73 (M_spec_l1Below_ok (q17 rfl) hA h10 (hO.sub [(0, ob (.pointer (some ⟨b0, 0, none⟩)) (.box B0 84 E_spec_l1Cur x11.2))] ⟨rfl, rfl, trivial⟩) rfl)) ?_
  rintro v_ w ⟨A, hG1, hv⟩ R hs hd
  have hst := stp_call hA hG1 (hO.ok 0 _ rfl).2
  replace hAA : ∀ b o, A0 b o → A b o := low_callK hAA hA0 hN (hO.geK (⟨.inr (fun k h => .inr h), ⟨.inl rfl, trivial⟩⟩)) 0 rfl hG1
  replace hF : Ch (ownsB (.pointer (some ⟨b0, 0, none⟩))) w0 w := hF.tr hG1.ch (fun k hk => (hO.geK (⟨.inr (fun k h => .inr h), ⟨.inl rfl, trivial⟩⟩)) k ⟨0, _, rfl, hk⟩)
  replace hO := GPost.next hO hA 0 rfl hG1
  replace hA := hG1.avok
  replace hO : IniOK [ob (.pointer (some ⟨b0, 0, none⟩)) (.box B0 84 E_spec_l1Cur x16.2), ob u8 (.vec w0.heap.size 91 E_impl_TokenCount x5)] A w := hO
  replace h3 := (hs 3 rfl).trans h3
  replace h9 := (hs 9 rfl).trans h9
  replace h10 := (hs 10 rfl).trans h10
  have h11 : R 11 = .int .i64 x16.1 := hd.trans hv
  clear hFz hG1 hv hs hd
  obtain ⟨e18, hr⟩ := ck_some hr
  refine SG.textR [ob (.pointer (some ⟨b0, 0, none⟩)) (.box B0 84 E_spec_l1Cur x16.2), ob u8 (.vec w0.heap.size 91 E_impl_TokenCount x5)] (⟨_, true, [], none, true, fun A => .raw u8⟩ :: ⟨_, true, [], none, true, fun A => .raw (.pointer (some ⟨b0, 0, none⟩))⟩ :: ⟨_, true, [], none, true, fun A => .raw (.int .i64 x16.1)⟩ :: ⟨_, true, [], none, true, fun A => .rep E_impl_TokenCount A (([97] : List UInt8), x16.1)⟩ :: ⟨_, true, [], none, true, fun A => .rep (eSl E_impl_TokenCount) A ([(([97] : List UInt8), x16.1)] : List T_impl_TokenCount)⟩ :: ⟨_, true, [1], some (.vec w0.heap.size 91 E_impl_TokenCount (x5 ++ ([(([97] : List UInt8), x16.1)] : List T_impl_TokenCount))), true, fun A => .any⟩ :: ⟨_, true, [7], some (.vec w0.heap.size 91 E_impl_TokenCount (x5 ++ ([(([97] : List UInt8), x16.1)] : List T_impl_TokenCount))), true, fun A => .any⟩ :: []) 7 rfl rfl rfl (by kernel_rfl) (by kernel_rfl) (Wf.mk' (by kernel_rfl) (UAll.cons ust_raw (UAll.cons ust_raw (UAll.cons ust_raw (UAll.cons ust_rep (UAll.cons ust_rep (UAll.cons ust_any (UAll.cons ust_any (UAll.nil)))))))) (by kernel_rfl) (by kernel_rfl)) hO hA (⟨⟨rfl, rfl, rfl, h9⟩, ⟨⟨rfl, rfl, rfl, h10⟩, ⟨⟨rfl, rfl, rfl, h11⟩, trivial⟩⟩⟩) ?_ ?_
  ·exact
    OblsR.p (fun A' R' w' ho hd => by have a1 : R' 11 = .int .i64 x16.1 := hd.g 0 rfl; exact of_build_raw (v := .agg #[.string ⟨#[97]⟩, .int .i64 x16.1]) (by simp [execOp, Instr.build, evalR, a1, underlying, Tryz.underlying91, Tryz.zeroValue91, Tryz.sizeOf3, Tryz.sizeOf9, go_sem, Instr.fill]) ⟨_, rfl, rep_pr (rep1_str rfl (by decide)) rep1_int⟩) <|
    OblsR.p (fun A' R' w' ho hd => by have a0 : Rep E_impl_TokenCount A' w' (R' 12) (([97] : List UInt8), x16.1) := hd.g 0 rfl; exact of_build [_] (E := E_impl_TokenCount) ⟨a0, trivial⟩ Tryz.underlying24 Tryz.sizeOf91 Tryz.zeroValue91 rfl rfl rfl ho.av) <|
    OblsR.cons (OblR.took 1 _ _ rfl rfl rfl rfl rfl fun A' R' w' ho hd u hok hav hin hop hds => by have a0 : R' 9 = u8 := hd.g 0 rfl; have a1 : Rep (eSl E_impl_TokenCount) A' w' (R' 13) ([(([97] : List UInt8), x16.1)] : List T_impl_TokenCount) := hd.g 1 rfl; exact took_append (a0.trans (hin _ rfl).symm) hok hav (Nat.le_trans hF.size ho.ch.size) a1 Tryz.underlying24 el_91 e18) <|
    OblsR.cons (OblR.took 7 _ _ rfl rfl rfl rfl rfl fun A' R' w' ho hd u hok hav hin hop hds => by exact took_assign (hop _ _ rfl rfl rfl rfl).symm hok hav) <|
    OblsR.nil
  intro done ρ σ A R w hdn hI
  have z19 := hI.inivR 0 rfl
  obtain ⟨u20, e_u20⟩ : ∃ u, ρ 8 = u := ⟨_, rfl⟩
  have h3 : R 3 = u20 := (hI.opvR hdn 8 6 rfl rfl rfl rfl rfl).symm.trans e_u20
  replace hAA := hI.lowK hAA hA0 hN (hO.geK (⟨.inr (fun k h => .inr h), ⟨.inl rfl, trivial⟩⟩))
  replace hF : Ch (ownsB (.pointer (some ⟨b0, 0, none⟩))) w0 w := hF.tr hI.ch (hO.geK (⟨.inr (fun k h => .inr h), ⟨.inl rfl, trivial⟩⟩))
  replace hO : IniOK [ob (.pointer (some ⟨b0, 0, none⟩)) (.box B0 84 E_spec_l1Cur x16.2), ob u20 (.vec w0.heap.size 91 E_impl_TokenCount (x5 ++ ([(([97] : List UInt8), x16.1)] : List T_impl_TokenCount)))] A w := hI.left hdn [(0, ob (.pointer (some ⟨b0, 0, none⟩)) (.box B0 84 E_spec_l1Cur x16.2)), (8, ob u20 (.vec w0.heap.size 91 E_impl_TokenCount (x5 ++ ([(([97] : List UInt8), x16.1)] : List T_impl_TokenCount))))] ⟨rfl, rfl, z19, rfl, rfl, ⟨rfl, rfl, e_u20, rfl, rfl, trivial⟩⟩
  replace hA := hI.avok
  clear hI
  refine SG.fin rfl ?_
  refine HT.seq ?_
  refine HT.text (l := ⟨_, true, .raw u20⟩ :: ⟨_, true, .raw u20⟩ :: []) (tl := []) (by kernel_rfl) (by kernel_rfl) (by kernel_rfl) ?_ ?_
  ·exact
    Obls.p (fun R' w' hw hs hd => of_move ((hs 3 rfl).trans h3)) <|
    Obls.p (fun R' w' hw hs hd => by have a0 : R' 15 = u20 := hd.g 0 rfl; exact of_assign a0) <|
    Obls.nil
  intro R w hw hs hF'
  have h2 : R 2 = u20 := hF' 1 _ _ rfl rfl rfl
  replace hO := hO.fr hw
  replace hA := hA.fr hw.size
  replace hF := hF.tr (hw.ch noB) fun _ h => False.elim h
  clear hs hF' hw
  refine seqR_nil ?_
  refine HT.ret ?_
  obtain rfl := Option.some.inj hr
  obtain ⟨A1, hA1, hG1⟩ := GPost.of hO hA hAA (hO.geK (⟨.inr (fun k h => .inr h), ⟨.inl rfl, trivial⟩⟩)) hF
  exact ⟨.inr rfl, [R 2], ⟨rfl, trivial⟩, u20, A1, hG1, h2⟩
 ·have hr := cnd_f c13 hr
  refine HT.skip ?_
  refine HT.seq ?_
  refine HT.text (l := ⟨_, true, .raw u8⟩ :: ⟨_, true, .raw u8⟩ :: []) (tl := []) (by kernel_rfl) (by kernel_rfl) (by kernel_rfl) ?_ ?_
  ·exact
    Obls.p (fun R' w' hw hs hd => of_move ((hs 3 rfl).trans h3)) <|
    Obls.p (fun R' w' hw hs hd => by have a0 : R' 15 = u8 := hd.g 0 rfl; exact of_assign a0) <|
    Obls.nil
  intro R w hw hs hF'
  have h2 : R 2 = u8 := hF' 1 _ _ rfl rfl rfl
  replace hO := hO.fr hw
  replace hA := hA.fr hw.size
  replace hF := hF.tr (hw.ch noB) fun _ h => False.elim h
  clear hs hF' hw
  refine seqR_nil ?_
  refine HT.ret ?_
  obtain rfl := Option.some.inj hr
  obtain ⟨A1, hA1, hG1⟩ := GPost.of hO hA hAA (hO.geK (⟨.inr (fun k h => .inr h), ⟨.inl rfl, trivial⟩⟩)) hF
  exact ⟨.inr rfl, [R 2], ⟨rfl, trivial⟩, u8, A1, hG1, h2⟩
def M_spec_l3Any (fu : Nat) (p0 : T_spec_l1Cur) : Option ((List (List UInt8)) × T_spec_l1Cur) :=
 cl true (M_spec_l3Set fu p0) fun x2 =>
 cl true (M_spec_l1Once fu x2.2 (10 : Int)) fun x9 =>
 bif x9.1 then (
  cl true (M_spec_l1Pick fu x9.2 ([([] : List UInt8), ([65] : List UInt8), ([97] : List UInt8), ([97, 32, 98] : List UInt8), ([122, 122] : List UInt8)] : List (List UInt8))) fun x15 =>
  ck (lenOK (x2.1.length + ([x15.1] : List (List UInt8)).length)) <|
  some ((x2.1 ++ ([x15.1] : List (List UInt8))), x15.2)
 ) else (
  some (x2.1, x9.2)
 )
theorem M_spec_l3Any_ok {fu : Nat} {Aq : Av} {p0 : T_spec_l1Cur} {r : (List (List UInt8)) × T_spec_l1Cur} (hr : M_spec_l3Any fu p0 = some r) {w : World} {v0 : Value} {b0 B0 : Nat} (hA : AvOK Aq w) (h0 : v0 = .pointer (some ⟨b0, 0, none⟩)) (hO0 : IniOK [ob (.pointer (some ⟨b0, 0, none⟩)) (.box B0 84 E_spec_l1Cur p0)] Aq w) :
  Calls Tryz.prog 38 #[v0] w fun e w' => ∃ v, e = .returned v ∧ (∃ (u0 : Value) (A1 : Av), GPost (subS Aq (ownsB (.pointer (some ⟨b0, 0, none⟩)))) (ownsB (.pointer (some ⟨b0, 0, none⟩))) w [ob (.pointer (some ⟨b0, 0, none⟩)) (.box B0 84 E_spec_l1Cur r.2), ob u0 (.vec w.heap.size 9 eStr r.1)] A1 w' ∧ (Fact.raw u0).ok v w') := by
 unfold M_spec_l3Any at hr
 obtain ⟨w0, hw0⟩ : ∃ w0, w0 = w := ⟨_, rfl⟩
 have hF : Ch (ownsB (.pointer (some ⟨b0, 0, none⟩))) w0 w := hw0 ▸ Ch.refl _ _
 obtain ⟨A0, hA0e⟩ : ∃ A0, A0 = subS Aq (ownsB (.pointer (some ⟨b0, 0, none⟩))) := ⟨_, rfl⟩
 have hA0 : ∀ b o, A0 b o → b < w0.heap.size := fun b o h => hw0 ▸ hA b o (hA0e ▸ h : subS Aq _ b o).1
 have hN : ∀ b o, A0 b o → ¬ (ownsB (.pointer (some ⟨b0, 0, none⟩))) b := fun b o h => (hA0e ▸ h : subS Aq _ b o).2
 have hA00 : AvOK A0 w0 := hA0
 rw [show GPost (subS Aq (ownsB (.pointer (some ⟨b0, 0, none⟩)))) (ownsB (.pointer (some ⟨b0, 0, none⟩))) w = GPost A0 (ownsB (.pointer (some ⟨b0, 0, none⟩))) w0 from by rw [hA0e, hw0]]
 rw [show w.heap.size = w0.heap.size from by rw [hw0]]
 clear hw0
 obtain ⟨A, hAe⟩ : ∃ A, A = Aq := ⟨_, rfl⟩
 have hAA : ∀ b o, A0 b o → A b o := fun b o h => hAe ▸ (hA0e ▸ h : subS Aq _ b o).1
 replace hA : AvOK A w := hAe ▸ hA
 have hO : IniOK [ob (.pointer (some ⟨b0, 0, none⟩)) (.box B0 84 E_spec_l1Cur p0)] A w := hAe ▸ hO0
 clear hA0e hO0
 refine calls_of_HT2 [.tmp 2] Tryz.func38 Tryz.ntmps38 (by decide) rfl rfl (Nat.le_of_ble_eq_true rfl) ?_
 intro R hR
 replace h0 : R 0 = .pointer (some ⟨b0, 0, none⟩) := (hR 0 _ rfl).trans h0
 clear hR hAe
 refine HT.seq ?_
 refine HT.text (l := ⟨_, true, .any⟩ :: []) (tl := []) (by kernel_rfl) (by kernel_rfl) (by kernel_rfl) ?_ ?_
 ·exact
   Obls.p (fun R' w' hw hs hd => of_assign trivial) <|
   Obls.nil
 intro R w hw hs hF'
 replace h0 := (hs 0 rfl).trans h0
 replace hO := hO.fr hw
 replace hA := hA.fr hw.size
 replace hF := hF.tr (hw.ch noB) fun _ h => False.elim h
 clear hs hF' hw
 refine seqR_nil ?_
 refine HT.seq ?_
 refine SG.of ?_
 refine SG.textR [ob (.pointer (some ⟨b0, 0, none⟩)) (.box B0 84 E_spec_l1Cur p0)] (⟨_, true, [], none, true, fun A => .raw (.pointer (some ⟨b0, 0, none⟩))⟩ :: []) 1 rfl rfl rfl (by kernel_rfl) (by kernel_rfl) (Wf.mk' (by kernel_rfl) (UAll.cons ust_raw (UAll.nil)) (by kernel_rfl) (by kernel_rfl)) hO hA (trivial) ?_ ?_
 ·exact
   OblsR.p (fun A' R' w' ho hd => of_move ((ho.old 0 rfl).trans h0)) <|
   OblsR.nil
 intro done ρ σ A R w hdn hI
 replace h0 : R 0 = (.pointer (some ⟨b0, 0, none⟩)) := (hI.reg rfl).trans h0
 have z1 := hI.inivR 0 rfl
 have h4 : R 4 = (.pointer (some ⟨b0, 0, none⟩)) := hI.fact hdn (i := 0) rfl rfl rfl
 replace hAA := hI.lowK hAA hA0 hN (hO.geK (⟨.inr (fun k h => .inr h), trivial⟩))
 replace hF : Ch (ownsB (.pointer (some ⟨b0, 0, none⟩))) w0 w := hF.tr hI.ch (hO.geK (⟨.inr (fun k h => .inr h), trivial⟩))
 replace hO : IniOK [ob (.pointer (some ⟨b0, 0, none⟩)) (.box B0 84 E_spec_l1Cur p0)] A w := hI.left hdn [(0, ob (.pointer (some ⟨b0, 0, none⟩)) (.box B0 84 E_spec_l1Cur p0))] ⟨rfl, rfl, z1, rfl, rfl, trivial⟩
 replace hA := hI.avok
 clear hI
 obtain ⟨x2, q3, hr⟩ := cl_some hr
 have hFz : w0.heap.size ≤ w.heap.size := hF.size
 refine SG.op 5 rfl rfl rfl rfl (call_run Tryz.call74 (M_spec_l3Set_ok (q3 rfl) hA h4 (hO.sub [(0, ob (.pointer (some ⟨b0, 0, none⟩)) (.box B0 84 E_spec_l1Cur p0))] ⟨rfl, rfl, trivial⟩))) ?_
 rintro v_ w ⟨u4, A, hG1, hv⟩ R hs hd
 have hst := stp_call hA hG1 (hO.ok 0 _ rfl).2
 replace hAA : ∀ b o, A0 b o → A b o := low_callK hAA hA0 hN (hO.geK (⟨.inr (fun k h => .inr h), trivial⟩)) 0 rfl hG1
 replace hF : Ch (ownsB (.pointer (some ⟨b0, 0, none⟩))) w0 w := hF.tr hG1.ch (fun k hk => (hO.geK (⟨.inr (fun k h => .inr h), trivial⟩)) k ⟨0, _, rfl, hk⟩)
 replace hO := GPost.next hO hA 0 rfl hG1
 replace hA := hG1.avok
 replace hO := hO.reV (B' := w0.heap.size) 1 rfl hFz
 replace hO : IniOK [ob (.pointer (some ⟨b0, 0, none⟩)) (.box B0 84 E_spec_l1Cur x2.2), ob u4 (.vec w0.heap.size 9 eStr x2.1)] A w := hO
 replace h0 := (hs 0 rfl).trans h0
 replace h4 := (hs 4 rfl).trans h4
 have h5 : R 5 = u4 := hd.trans hv
 clear hFz hG1 hv hs hd
 refine SG.textR [ob (.pointer (some ⟨b0, 0, none⟩)) (.box B0 84 E_spec_l1Cur x2.2), ob u4 (.vec w0.heap.size 9 eStr x2.1)] (⟨_, true, [], none, true, fun A => .raw (.pointer (some ⟨b0, 0, none⟩))⟩ :: ⟨_, true, [], none, true, fun A => .raw u4⟩ :: ⟨_, true, [], none, true, fun A => .raw u4⟩ :: []) 3 rfl rfl rfl (by kernel_rfl) (by kernel_rfl) (Wf.mk' (by kernel_rfl) (UAll.cons ust_raw (UAll.cons ust_raw (UAll.cons ust_raw (UAll.nil)))) (by kernel_rfl) (by kernel_rfl)) hO hA (⟨⟨rfl, rfl, rfl, h4⟩, ⟨⟨rfl, rfl, rfl, h5⟩, trivial⟩⟩) ?_ ?_
 ·exact
   OblsR.p (fun A' R' w' ho hd => by have a0 : R' 5 = u4 := hd.g 0 rfl; exact of_assign a0) <|
   OblsR.nil
 intro done ρ σ A R w hdn hI
 replace h0 : R 0 = (.pointer (some ⟨b0, 0, none⟩)) := (hI.reg rfl).trans h0
 have z5 := hI.inivR 0 rfl
 have z6 := hI.inivR 1 rfl
 have h3 : R 3 = u4 := hI.fact hdn (i := 2) rfl rfl rfl
 replace hAA := hI.lowK hAA hA0 hN (hO.geK (⟨.inr (fun k h => .inr h), ⟨.inl rfl, trivial⟩⟩))
 replace hF : Ch (ownsB (.pointer (some ⟨b0, 0, none⟩))) w0 w := hF.tr hI.ch (hO.geK (⟨.inr (fun k h => .inr h), ⟨.inl rfl, trivial⟩⟩))
 replace hO : IniOK [ob (.pointer (some ⟨b0, 0, none⟩)) (.box B0 84 E_spec_l1Cur x2.2), ob u4 (.vec w0.heap.size 9 eStr x2.1)] A w := hI.left hdn [(0, ob (.pointer (some ⟨b0, 0, none⟩)) (.box B0 84 E_spec_l1Cur x2.2)), (1, ob u4 (.vec w0.heap.size 9 eStr x2.1))] ⟨rfl, rfl, z5, rfl, rfl, ⟨rfl, rfl, z6, rfl, rfl, trivial⟩⟩
 replace hA := hI.avok
 clear hI
 refine SG.fin rfl ?_
 refine HT.seq ?_
 refine HT.seq ?_
 refine SG.of ?_
 refine SG.textR [ob (.pointer (some ⟨b0, 0, none⟩)) (.box B0 84 E_spec_l1Cur x2.2), ob u4 (.vec w0.heap.size 9 eStr x2.1)] (⟨_, true, [], none, true, fun A => .raw (.pointer (some ⟨b0, 0, none⟩))⟩ :: []) 1 rfl rfl rfl (by kernel_rfl) (by kernel_rfl) (Wf.mk' (by kernel_rfl) (UAll.cons ust_raw (UAll.nil)) (by kernel_rfl) (by kernel_rfl)) hO hA (trivial) ?_ ?_
 ·exact
   OblsR.p (fun A' R' w' ho hd => of_move ((ho.old 0 rfl).trans h0)) <|
   OblsR.nil
 intro done ρ σ A R w hdn hI
 replace h0 : R 0 = (.pointer (some ⟨b0, 0, none⟩)) := (hI.reg rfl).trans h0
 replace h3 : R 3 = u4 := (hI.reg rfl).trans h3
 have z7 := hI.inivR 0 rfl
 have z8 := hI.inivR 1 rfl
 have h6 : R 6 = (.pointer (some ⟨b0, 0, none⟩)) := hI.fact hdn (i := 0) rfl rfl rfl
 replace hAA := hI.lowK hAA hA0 hN (hO.geK (⟨.inr (fun k h => .inr h), ⟨.inl rfl, trivial⟩⟩))
 replace hF : Ch (ownsB (.pointer (some ⟨b0, 0, none⟩))) w0 w := hF.tr hI.ch (hO.geK (⟨.inr (fun k h => .inr h), ⟨.inl rfl, trivial⟩⟩))
 replace hO : IniOK [ob (.pointer (some ⟨b0, 0, none⟩)) (.box B0 84 E_spec_l1Cur x2.2), ob u4 (.vec w0.heap.size 9 eStr x2.1)] A w := hI.left hdn [(0, ob (.pointer (some ⟨b0, 0, none⟩)) (.box B0 84 E_spec_l1Cur x2.2)), (1, ob u4 (.vec w0.heap.size 9 eStr x2.1))] ⟨rfl, rfl, z7, rfl, rfl, ⟨rfl, rfl, z8, rfl, rfl, trivial⟩⟩
 replace hA := hI.avok
 clear hI
 obtain ⟨x9, q10, hr⟩ := cl_some hr
 have hFz : w0.heap.size ≤ w.heap.size := hF.size
 refine SG.op 7 rfl rfl rfl rfl (call_run Tryz.call72 (M_spec_l1Once_ok (q10 rfl) hA h6 (hO.sub [(0, ob (.pointer (some ⟨b0, 0, none⟩)) (.box B0 84 E_spec_l1Cur x2.2))] ⟨rfl, rfl, trivial⟩) rfl)) ?_
 rintro v_ w ⟨A, hG1, hv⟩ R hs hd
 have hst := stp_call hA hG1 (hO.ok 0 _ rfl).2
 replace hAA : ∀ b o, A0 b o → A b o := low_callK hAA hA0 hN (hO.geK (⟨.inr (fun k h => .inr h), ⟨.inl rfl, trivial⟩⟩)) 0 rfl hG1
 replace hF : Ch (ownsB (.pointer (some ⟨b0, 0, none⟩))) w0 w := hF.tr hG1.ch (fun k hk => (hO.geK (⟨.inr (fun k h => .inr h), ⟨.inl rfl, trivial⟩⟩)) k ⟨0, _, rfl, hk⟩)
 replace hO := GPost.next hO hA 0 rfl hG1
 replace hA := hG1.avok
 replace hO : IniOK [ob (.pointer (some ⟨b0, 0, none⟩)) (.box B0 84 E_spec_l1Cur x9.2), ob u4 (.vec w0.heap.size 9 eStr x2.1)] A w := hO
 replace h0 := (hs 0 rfl).trans h0
 replace h3 := (hs 3 rfl).trans h3
 replace h6 := (hs 6 rfl).trans h6
 have h7 : R 7 = .bool x9.1 := hd.trans hv
 clear hFz hG1 hv hs hd
 refine SG.fin rfl ?_
 refine HT.cond x9.1 h7 (fun c11 => ?_) (fun c11 => ?_)
 ·have hr := cnd_t c11 hr
  refine SG.of ?_
  refine SG.textR [ob (.pointer (some ⟨b0, 0, none⟩)) (.box B0 84 E_spec_l1Cur x9.2), ob u4 (.vec w0.heap.size 9 eStr x2.1)] (⟨_, true, [], none, true, fun A => .raw u4⟩ :: ⟨_, true, [], none, true, fun A => .raw (.pointer (some ⟨b0, 0, none⟩))⟩ :: ⟨_, true, [], none, true, fun A => .rep (eSl eStr) A ([([] : List UInt8), ([65] : List UInt8), ([97] : List UInt8), ([97, 32, 98] : List UInt8), ([122, 122] : List UInt8)] : List (List UInt8))⟩ :: []) 3 rfl rfl rfl (by kernel_rfl) (by kernel_rfl) (Wf.mk' (by kernel_rfl) (UAll.cons ust_raw (UAll.cons ust_raw (UAll.cons ust_rep (UAll.nil)))) (by kernel_rfl) (by kernel_rfl)) hO hA (trivial) ?_ ?_
  ·exact
    OblsR.p (fun A' R' w' ho hd => of_move ((ho.old 3 rfl).trans h3)) <|
    OblsR.p (fun A' R' w' ho hd => of_move ((ho.old 0 rfl).trans h0)) <|
    OblsR.p (fun A' R' w' ho hd => of_build [_, _, _, _, _] (E := eStr) ⟨⟨_, rfl, ⟨_, rfl, rfl, by decide⟩⟩, ⟨⟨_, rfl, ⟨_, rfl, rfl, by decide⟩⟩, ⟨⟨_, rfl, ⟨_, rfl, rfl, by decide⟩⟩, ⟨⟨_, rfl, ⟨_, rfl, rfl, by decide⟩⟩, ⟨⟨_, rfl, ⟨_, rfl, rfl, by decide⟩⟩, trivial⟩⟩⟩⟩⟩ Tryz.underlying25 Tryz.sizeOf9 Tryz.zeroValue9 rfl rfl rfl ho.av) <|
    OblsR.nil
  intro done ρ σ A R w hdn hI
  replace h3 : R 3 = u4 := (hI.reg rfl).trans h3
  have z12 := hI.inivR 0 rfl
  have z13 := hI.inivR 1 rfl
  have h8 : R 8 = u4 := hI.fact hdn (i := 0) rfl rfl rfl
  have h9 : R 9 = (.pointer (some ⟨b0, 0, none⟩)) := hI.fact hdn (i := 1) rfl rfl rfl
  obtain ⟨u14, h10, f_u14⟩ : ∃ u, R 10 = u ∧ Rep (eSl eStr) A w u ([([] : List UInt8), ([65] : List UInt8), ([97] : List UInt8), ([97, 32, 98] : List UInt8), ([122, 122] : List UInt8)] : List (List UInt8)) := ⟨_, rfl, hI.fact hdn (i := 2) rfl rfl rfl⟩
  replace hAA := hI.lowK hAA hA0 hN (hO.geK (⟨.inr (fun k h => .inr h), ⟨.inl rfl, trivial⟩⟩))
  replace hF : Ch (ownsB (.pointer (some ⟨b0, 0, none⟩))) w0 w := hF.tr hI.ch (hO.geK (⟨.inr (fun k h => .inr h), ⟨.inl rfl, trivial⟩⟩))
  replace hO : IniOK [ob (.pointer (some ⟨b0, 0, none⟩)) (.box B0 84 E_spec_l1Cur x9.2), ob u4 (.vec w0.heap.size 9 eStr x2.1)] A w := hI.left hdn [(0, ob (.pointer (some ⟨b0, 0, none⟩)) (.box B0 84 E_spec_l1Cur x9.2)), (1, ob u4 (.vec w0.heap.size 9 eStr x2.1))] ⟨rfl, rfl, z12, rfl, rfl, ⟨rfl, rfl, z13, rfl, rfl, trivial⟩⟩
  replace hA := hI.avok
  clear hI
  obtain ⟨x15, q16, hr⟩ := cl_some hr
  have hFz : w0.heap.size ≤ w.heap.size := hF.size
  refine SG.op 11 rfl rfl rfl rfl (call_run Tryz.call75 (M_spec_l1Pick_ok (q16 rfl) hA h9 (hO.sub [(0, ob (.pointer (some ⟨b0, 0, none⟩)) (.box B0 84 E_spec_l1Cur x9.2))] ⟨rfl, rfl, trivial⟩) (f_u14.eq h10))) ?_
  rintro v_ w ⟨A, hG1, hv⟩ R hs hd
  have hst := stp_call hA hG1 (hO.ok 0 _ rfl).2
  replace hAA : ∀ b o, A0 b o → A b o := low_callK hAA hA0 hN (hO.geK (⟨.inr (fun k h => .inr h), ⟨.inl rfl, trivial⟩⟩)) 0 rfl hG1
  replace hF : Ch (ownsB (.pointer (some ⟨b0, 0, none⟩))) w0 w := hF.tr hG1.ch (fun k hk => (hO.geK (⟨.inr (fun k h => .inr h), ⟨.inl rfl, trivial⟩⟩)) k ⟨0, _, rfl, hk⟩)
  replace hO := GPost.next hO hA 0 rfl hG1
  replace hA := hG1.avok
  replace hO : IniOK [ob (.pointer (some ⟨b0, 0, none⟩)) (.box B0 84 E_spec_l1Cur x15.2), ob u4 (.vec w0.heap.size 9 eStr x2.1)] A w := hO
  replace h3 := (hs 3 rfl).trans h3
  replace h8 := (hs 8 rfl).trans h8
  replace h9 := (hs 9 rfl).trans h9
  replace h10 := (hs 10 rfl).trans h10
  replace f_u14 := f_u14.stp hst
  obtain ⟨u17, h11, f_u17⟩ : ∃ u, R 11 = u ∧ Rep eStr A w u x15.1 := ⟨_, rfl, hd ▸ hv⟩
  clear hFz hG1 hv hs hd
  obtain ⟨e18, hr⟩ := ck_some hr
  refine SG.textR [ob (.pointer (some ⟨b0, 0, none⟩)) (.box B0 84 E_spec_l1Cur x15.2), ob u4 (.vec w0.heap.size 9 eStr x2.1)] (⟨_, true, [], none, true, fun A => .raw u4⟩ :: ⟨_, true, [], none, true, fun A => .raw (.pointer (some ⟨b0, 0, none⟩))⟩ :: ⟨_, true, [], none, true, fun A => .raw u14⟩ :: ⟨_, true, [], none, true, fun A => .raw u17⟩ :: ⟨_, true, [], none, true, fun A => .rep (eSl eStr) A ([x15.1] : List (List UInt8))⟩ :: ⟨_, true, [1], some (.vec w0.heap.size 9 eStr (x2.1 ++ ([x15.1] : List (List UInt8)))), true, fun A => .any⟩ :: ⟨_, true, [7], some (.vec w0.heap.size 9 eStr (x2.1 ++ ([x15.1] : List (List UInt8)))), true, fun A => .any⟩ :: []) 7 rfl rfl rfl (by kernel_rfl) (by kernel_rfl) (Wf.mk' (by kernel_rfl) (UAll.cons ust_raw (UAll.cons ust_raw (UAll.cons ust_raw (UAll.cons ust_raw (UAll.cons ust_rep (UAll.cons ust_any (UAll.cons ust_any (UAll.nil)))))))) (by kernel_rfl) (by kernel_rfl)) hO hA (⟨⟨rfl, rfl, rfl, h8⟩, ⟨⟨rfl, rfl, rfl, h9⟩, ⟨⟨rfl, rfl, rfl, h10⟩, ⟨⟨rfl, rfl, rfl, h11⟩, trivial⟩⟩⟩⟩) ?_ ?_
  ·exact
    OblsR.p (fun A' R' w' ho hd => by have a0 : R' 11 = u17 := hd.g 0 rfl; have ra0 := (f_u17.stp ho.stp).eq a0; exact of_build [_] (E := eStr) ⟨ra0, trivial⟩ Tryz.underlying25 Tryz.sizeOf9 Tryz.zeroValue9 rfl rfl rfl ho.av) <|
    OblsR.cons (OblR.took 1 _ _ rfl rfl rfl rfl rfl fun A' R' w' ho hd u hok hav hin hop hds => by have a0 : R' 8 = u4 := hd.g 0 rfl; have a1 : Rep (eSl eStr) A' w' (R' 12) ([x15.1] : List (List UInt8)) := hd.g 1 rfl; exact took_append (a0.trans (hin _ rfl).symm) hok hav (Nat.le_trans hF.size ho.ch.size) a1 Tryz.underlying25 el_9 e18) <|
    OblsR.cons (OblR.took 7 _ _ rfl rfl rfl rfl rfl fun A' R' w' ho hd u hok hav hin hop hds => by exact took_assign (hop _ _ rfl rfl rfl rfl).symm hok hav) <|
    OblsR.nil
  intro done ρ σ A R w hdn hI
  have z19 := hI.inivR 0 rfl
  obtain ⟨u20, e_u20⟩ : ∃ u, ρ 8 = u := ⟨_, rfl⟩
  have h3 : R 3 = u20 := (hI.opvR hdn 8 6 rfl rfl rfl rfl rfl).symm.trans e_u20
  replace hAA := hI.lowK hAA hA0 hN (hO.geK (⟨.inr (fun k h => .inr h), ⟨.inl rfl, trivial⟩⟩))
  replace hF : Ch (ownsB (.pointer (some ⟨b0, 0, none⟩))) w0 w := hF.tr hI.ch (hO.geK (⟨.inr (fun k h => .inr h), ⟨.inl rfl, trivial⟩⟩))
  replace hO : IniOK [ob (.pointer (some ⟨b0, 0, none⟩)) (.box B0 84 E_spec_l1Cur x15.2), ob u20 (.vec w0.heap.size 9 eStr (x2.1 ++ ([x15.1] : List (List UInt8))))] A w := hI.left hdn [(0, ob (.pointer (some ⟨b0, 0, none⟩)) (.box B0 84 E_spec_l1Cur x15.2)), (8, ob u20 (.vec w0.heap.size 9 eStr (x2.1 ++ ([x15.1] : List (List UInt8)))))] ⟨rfl, rfl, z19, rfl, rfl, ⟨rfl, rfl, e_u20, rfl, rfl, trivial⟩⟩
  replace hA := hI.avok
  clear hI
  refine SG.fin rfl ?_
  refine HT.seq ?_
  refine HT.text (l := ⟨_, true, .raw u20⟩ :: ⟨_, true, .raw u20⟩ :: []) (tl := []) (by kernel_rfl) (by kernel_rfl) (by kernel_rfl) ?_ ?_
  ·exact
    Obls.p (fun R' w' hw hs hd => of_move ((hs 3 rfl).trans h3)) <|
    Obls.p (fun R' w' hw hs hd => by have a0 : R' 14 = u20 := hd.g 0 rfl; exact of_assign a0) <|
    Obls.nil
  intro R w hw hs hF'
  have h2 : R 2 = u20 := hF' 1 _ _ rfl rfl rfl
  replace hO := hO.fr hw
  replace hA := hA.fr hw.size
  replace hF := hF.tr (hw.ch noB) fun _ h => False.elim h
  clear hs hF' hw
  refine seqR_nil ?_
  refine HT.ret ?_
  obtain rfl := Option.some.inj hr
  obtain ⟨A1, hA1, hG1⟩ := GPost.of hO hA hAA (hO.geK (⟨.inr (fun k h => .inr h), ⟨.inl rfl, trivial⟩⟩)) hF
  exact ⟨.inr rfl, [R 2], ⟨rfl, trivial⟩, u20, A1, hG1, h2⟩
 ·have hr := cnd_f c11 hr
  refine HT.skip ?_
  refine HT.seq ?_
  refine HT.text (l := ⟨_, true, .raw u4⟩ :: ⟨_, true, .raw u4⟩ :: []) (tl := []) (by kernel_rfl) (by kernel_rfl) (by kernel_rfl) ?_ ?_
  ·exact
    Obls.p (fun R' w' hw hs hd => of_move ((hs 3 rfl).trans h3)) <|
    Obls.p (fun R' w' hw hs hd => by have a0 : R' 14 = u4 := hd.g 0 rfl; exact of_assign a0) <|
    Obls.nil
  intro R w hw hs hF'
  have h2 : R 2 = u4 := hF' 1 _ _ rfl rfl rfl
  replace hO := hO.fr hw
  replace hA := hA.fr hw.size
  replace hF := hF.tr (hw.ch noB) fun _ h => False.elim h
  clear hs hF' hw
  refine seqR_nil ?_
  refine HT.ret ?_
  obtain rfl := Option.some.inj hr
  obtain ⟨A1, hA1, hG1⟩ := GPost.of hO hA hAA (hO.geK (⟨.inr (fun k h => .inr h), ⟨.inl rfl, trivial⟩⟩)) hF
  exact ⟨.inr rfl, [R 2], ⟨rfl, trivial⟩, u4, A1, hG1, h2⟩
def M_spec_l1PickInt (fu : Nat) (p0 : T_spec_l1Cur) (p1 : List Int) : Option (Int × T_spec_l1Cur) :=
 cl true (M_spec_l1Below fu p0 (p1.length : Int)) fun x2 =>
 ck (inR x2.1 p1.length) <|
 some ((gtD p1 x2.1), x2.2)
theorem M_spec_l1PickInt_ok {fu : Nat} {Aq : Av} {p0 : T_spec_l1Cur} {p1 : List Int} {r : Int × T_spec_l1Cur} (hr : M_spec_l1PickInt fu p0 p1 = some r) {w : World} {v0 : Value} {v1 : Value} {b0 B0 : Nat} (hA : AvOK Aq w) (h0 : v0 = .pointer (some ⟨b0, 0, none⟩)) (hO0 : IniOK [ob (.pointer (some ⟨b0, 0, none⟩)) (.box B0 84 E_spec_l1Cur p0)] Aq w) (h1 : Rep (eSl (eInt .i64)) Aq w v1 p1) :
  Calls Tryz.prog 61 #[v0, v1] w fun e w' => ∃ v, e = .returned v ∧ (∃ (A1 : Av), GPost (subS Aq (ownsB (.pointer (some ⟨b0, 0, none⟩)))) (ownsB (.pointer (some ⟨b0, 0, none⟩))) w [ob (.pointer (some ⟨b0, 0, none⟩)) (.box B0 84 E_spec_l1Cur r.2)] A1 w' ∧ (Fact.raw (.int .i64 r.1)).ok v w') := by
 unfold M_spec_l1PickInt at hr
 obtain ⟨w0, hw0⟩ : ∃ w0, w0 = w := ⟨_, rfl⟩
 have hF : Ch (ownsB (.pointer (some ⟨b0, 0, none⟩))) w0 w := hw0 ▸ Ch.refl _ _
 obtain ⟨A0, hA0e⟩ : ∃ A0, A0 = subS Aq (ownsB (.pointer (some ⟨b0, 0, none⟩))) := ⟨_, rfl⟩
 have hA0 : ∀ b o, A0 b o → b < w0.heap.size := fun b o h => hw0 ▸ hA b o (hA0e ▸ h : subS Aq _ b o).1
 have hN : ∀ b o, A0 b o → ¬ (ownsB (.pointer (some ⟨b0, 0, none⟩))) b := fun b o h => (hA0e ▸ h : subS Aq _ b o).2
 have hA00 : AvOK A0 w0 := hA0
 rw [show GPost (subS Aq (ownsB (.pointer (some ⟨b0, 0, none⟩)))) (ownsB (.pointer (some ⟨b0, 0, none⟩))) w = GPost A0 (ownsB (.pointer (some ⟨b0, 0, none⟩))) w0 from by rw [hA0e, hw0]]
 clear hw0
 obtain ⟨A, hAe⟩ : ∃ A, A = Aq := ⟨_, rfl⟩
 have hAA : ∀ b o, A0 b o → A b o := fun b o h => hAe ▸ (hA0e ▸ h : subS Aq _ b o).1
 replace hA : AvOK A w := hAe ▸ hA
 have hO : IniOK [ob (.pointer (some ⟨b0, 0, none⟩)) (.box B0 84 E_spec_l1Cur p0)] A w := hAe ▸ hO0
 clear hA0e hO0
 refine calls_of_HT2 [.tmp 4] Tryz.func61 Tryz.ntmps61 (by decide) rfl rfl (Nat.le_of_ble_eq_true rfl) ?_
 intro R hR
 replace h0 : R 0 = .pointer (some ⟨b0, 0, none⟩) := (hR 0 _ rfl).trans h0
 have f_v1 : Rep (eSl (eInt .i64)) A w v1 p1 := hAe ▸ h1
 replace h1 : R 1 = v1 := hR 1 _ rfl
 clear hR hAe
 refine HT.seq ?_
 refine HT.text (l := ⟨_, true, .raw (.int .i64 (0 : Int))⟩ :: []) (tl := []) (by kernel_rfl) (by kernel_rfl) (by kernel_rfl) ?_ ?_
 ·exact
   Obls.p (fun R' w' hw hs hd => of_assign rfl) <|
   Obls.nil
 intro R w hw hs hF'
 replace h0 := (hs 0 rfl).trans h0
 replace h1 := (hs 1 rfl).trans h1
 replace f_v1 := f_v1.fr hw
 replace hO := hO.fr hw
 replace hA := hA.fr hw.size
 replace hF := hF.tr (hw.ch noB) fun _ h => False.elim h
 clear hs hF' hw
 refine seqR_nil ?_
 refine HT.seq ?_
 refine SG.of ?_
 refine SG.textR [ob (.pointer (some ⟨b0, 0, none⟩)) (.box B0 84 E_spec_l1Cur p0)] (⟨_, true, [], none, true, fun A => .raw v1⟩ :: ⟨_, true, [], none, true, fun A => .raw (.pointer (some ⟨b0, 0, none⟩))⟩ :: ⟨_, true, [], none, true, fun A => .raw v1⟩ :: ⟨_, true, [], none, true, fun A => .raw (.int .i64 (p1.length : Int))⟩ :: []) 4 rfl rfl rfl (by kernel_rfl) (by kernel_rfl) (Wf.mk' (by kernel_rfl) (UAll.cons ust_raw (UAll.cons ust_raw (UAll.cons ust_raw (UAll.cons ust_raw (UAll.nil))))) (by kernel_rfl) (by kernel_rfl)) hO hA (trivial) ?_ ?_
 ·exact
   OblsR.p (fun A' R' w' ho hd => of_move ((ho.old 1 rfl).trans h1)) <|
   OblsR.p (fun A' R' w' ho hd => of_move ((ho.old 0 rfl).trans h0)) <|
   OblsR.p (fun A' R' w' ho hd => of_move ((ho.old 1 rfl).trans h1)) <|
   OblsR.p (fun A' R' w' ho hd => by have a0 : R' 7 = v1 := hd.g 0 rfl; have ra0 := (f_v1.stp ho.stp).eq a0; exact of_len_sl (aT := #[]) ra0 Tryz.underlying43) <|
   OblsR.nil
 intro done ρ σ A R w hdn hI
 have z1 := hI.inivR 0 rfl
 have h5 : R 5 = v1 := hI.fact hdn (i := 0) rfl rfl rfl
 have h6 : R 6 = (.pointer (some ⟨b0, 0, none⟩)) := hI.fact hdn (i := 1) rfl rfl rfl
 have h8 : R 8 = .int .i64 (p1.length : Int) := hI.fact hdn (i := 3) rfl rfl rfl
 replace f_v1 := f_v1.stp hI.stp
 replace hAA := hI.lowK hAA hA0 hN (hO.geK (⟨.inr (fun k h => .inr h), trivial⟩))
 replace hF : Ch (ownsB (.pointer (some ⟨b0, 0, none⟩))) w0 w := hF.tr hI.ch (hO.geK (⟨.inr (fun k h => .inr h), trivial⟩))
 replace hO : IniOK [ob (.pointer (some ⟨b0, 0, none⟩)) (.box B0 84 E_spec_l1Cur p0)] A w := hI.left hdn [(0, ob (.pointer (some ⟨b0, 0, none⟩)) (.box B0 84 E_spec_l1Cur p0))] ⟨rfl, rfl, z1, rfl, rfl, trivial⟩
 replace hA := hI.avok
 clear hI
 obtain ⟨x2, q3, hr⟩ := cl_some hr
 have hFz : w0.heap.size ≤ w.heap.size := hF.size
 refine SG.op 9 rfl rfl rfl rfl (call_run Tryz.call73 (M_spec_l1Below_ok (q3 rfl) hA h6 (hO.sub [(0, ob (.pointer (some ⟨b0, 0, none⟩)) (.box B0 84 E_spec_l1Cur p0))] ⟨rfl, rfl, trivial⟩) h8)) ?_
 rintro v_ w ⟨A, hG1, hv⟩ R hs hd
 have hst := stp_call hA hG1 (hO.ok 0 _ rfl).2
 replace hAA : ∀ b o, A0 b o → A b o := low_callK hAA hA0 hN (hO.geK (⟨.inr (fun k h => .inr h), trivial⟩)) 0 rfl hG1
 replace hF : Ch (ownsB (.pointer (some ⟨b0, 0, none⟩))) w0 w := hF.tr hG1.ch (fun k hk => (hO.geK (⟨.inr (fun k h => .inr h), trivial⟩)) k ⟨0, _, rfl, hk⟩)
 replace hO := GPost.next hO hA 0 rfl hG1
 replace hA := hG1.avok
 replace hO : IniOK [ob (.pointer (some ⟨b0, 0, none⟩)) (.box B0 84 E_spec_l1Cur x2.2)] A w := hO
 replace h5 := (hs 5 rfl).trans h5
 replace h6 := (hs 6 rfl).trans h6
 replace h8 := (hs 8 rfl).trans h8
 replace f_v1 := f_v1.stp hst
 have h9 : R 9 = .int .i64 x2.1 := hd.trans hv
 clear hFz hG1 hv hs hd
 obtain ⟨e4, hr⟩ := ck_some hr
 refine SG.textR [ob (.pointer (some ⟨b0, 0, none⟩)) (.box B0 84 E_spec_l1Cur x2.2)] (⟨_, true, [], none, true, fun A => .raw v1⟩ :: ⟨_, true, [], none, true, fun A => .raw (.pointer (some ⟨b0, 0, none⟩))⟩ :: ⟨_, true, [], none, true, fun A => .any⟩ :: ⟨_, true, [], none, true, fun A => .raw (.int .i64 (p1.length : Int))⟩ :: ⟨_, true, [], none, true, fun A => .raw (.int .i64 x2.1)⟩ :: ⟨_, true, [], none, true, fun A => .qtr (eInt .i64) A (gtD p1 x2.1)⟩ :: ⟨_, true, [], none, true, fun A => .raw (.int .i64 (gtD p1 x2.1))⟩ :: ⟨_, true, [], none, true, fun A => .raw (.int .i64 (gtD p1 x2.1))⟩ :: []) 8 rfl rfl rfl (by kernel_rfl) (by kernel_rfl) (Wf.mk' (by kernel_rfl) (UAll.cons ust_raw (UAll.cons ust_raw (UAll.cons ust_any (UAll.cons ust_raw (UAll.cons ust_raw (UAll.cons ust_qtr (UAll.cons ust_raw (UAll.cons ust_raw (UAll.nil))))))))) (by kernel_rfl) (by kernel_rfl)) hO hA (⟨⟨rfl, rfl, rfl, h5⟩, ⟨⟨rfl, rfl, rfl, h6⟩, ⟨⟨rfl, rfl, rfl, trivial⟩, ⟨⟨rfl, rfl, rfl, h8⟩, ⟨⟨rfl, rfl, rfl, h9⟩, trivial⟩⟩⟩⟩⟩) ?_ ?_
 ·exact
   OblsR.p (fun A' R' w' ho hd => by have a0 : R' 5 = v1 := hd.g 0 rfl; have a1 : R' 9 = .int .i64 x2.1 := hd.g 1 rfl; have ra0 := (f_v1.stp ho.stp).eq a0; exact of_indexAddr ra0 a1 Tryz.underlying43 Tryz.sizeOf3 e4) <|
   OblsR.p (fun A' R' w' ho hd => by have a0 : QRep (eInt .i64) A' w' (R' 10) (gtD p1 x2.1) := hd.g 0 rfl; exact OpF.int (of_load a0.ptr Tryz.isAgg3 Tryz.sizeOf3)) <|
   OblsR.p (fun A' R' w' ho hd => by have a0 : R' 11 = .int .i64 (gtD p1 x2.1) := hd.g 0 rfl; exact of_assign a0) <|
   OblsR.nil
 intro done ρ σ A R w hdn hI
 have z5 := hI.inivR 0 rfl
 have h4 : R 4 = .int .i64 (gtD p1 x2.1) := hI.fact hdn (i := 7) rfl rfl rfl
 replace hAA := hI.lowK hAA hA0 hN (hO.geK (⟨.inr (fun k h => .inr h), trivial⟩))
 replace hF : Ch (ownsB (.pointer (some ⟨b0, 0, none⟩))) w0 w := hF.tr hI.ch (hO.geK (⟨.inr (fun k h => .inr h), trivial⟩))
 replace hO : IniOK [ob (.pointer (some ⟨b0, 0, none⟩)) (.box B0 84 E_spec_l1Cur x2.2)] A w := hI.left hdn [(0, ob (.pointer (some ⟨b0, 0, none⟩)) (.box B0 84 E_spec_l1Cur x2.2))] ⟨rfl, rfl, z5, rfl, rfl, trivial⟩
 replace hA := hI.avok
 clear hI
 refine SG.fin rfl ?_
 refine HT.ret ?_
 obtain rfl := Option.some.inj hr
 obtain ⟨A1, hA1, hG1⟩ := GPost.of hO hA hAA (hO.geK (⟨.inr (fun k h => .inr h), trivial⟩)) hF
 exact ⟨.inr rfl, [R 4], ⟨rfl, trivial⟩, A1, hG1, h4⟩
def M_spec_l5Level (fu : Nat) (p0 : T_spec_l1Cur) : Option (Int × T_spec_l1Cur) :=
 cl true (M_spec_l1PickInt fu p0 ([(500 : Int), (300 : Int), (700 : Int), (800 : Int), (1000 : Int), (1 : Int), (333 : Int), (0 : Int), (1001 : Int)] : List Int)) fun x3 =>
 some (x3.1, x3.2)
theorem M_spec_l5Level_ok {fu : Nat} {Aq : Av} {p0 : T_spec_l1Cur} {r : Int × T_spec_l1Cur} (hr : M_spec_l5Level fu p0 = some r) {w : World} {v0 : Value} {b0 B0 : Nat} (hA : AvOK Aq w) (h0 : v0 = .pointer (some ⟨b0, 0, none⟩)) (hO0 : IniOK [ob (.pointer (some ⟨b0, 0, none⟩)) (.box B0 84 E_spec_l1Cur p0)] Aq w) :
  Calls Tryz.prog 39 #[v0] w fun e w' => ∃ v, e = .returned v ∧ (∃ (A1 : Av), GPost (subS Aq (ownsB (.pointer (some ⟨b0, 0, none⟩)))) (ownsB (.pointer (some ⟨b0, 0, none⟩))) w [ob (.pointer (some ⟨b0, 0, none⟩)) (.box B0 84 E_spec_l1Cur r.2)] A1 w' ∧ (Fact.raw (.int .i64 r.1)).ok v w') := by
 unfold M_spec_l5Level at hr
 obtain ⟨w0, hw0⟩ : ∃ w0, w0 = w := ⟨_, rfl⟩
 have hF : Ch (ownsB (.pointer (some ⟨b0, 0, none⟩))) w0 w := hw0 ▸ Ch.refl _ _
 obtain ⟨A0, hA0e⟩ : ∃ A0, A0 = subS Aq (ownsB (.pointer (some ⟨b0, 0, none⟩))) := ⟨_, rfl⟩
 have hA0 : ∀ b o, A0 b o → b < w0.heap.size := fun b o h => hw0 ▸ hA b o (hA0e ▸ h : subS Aq _ b o).1
 have hN : ∀ b o, A0 b o → ¬ (ownsB (.pointer (some ⟨b0, 0, none⟩))) b := fun b o h => (hA0e ▸ h : subS Aq _ b o).2
 have hA00 : AvOK A0 w0 := hA0
 rw [show GPost (subS Aq (ownsB (.pointer (some ⟨b0, 0, none⟩)))) (ownsB (.pointer (some ⟨b0, 0, none⟩))) w = GPost A0 (ownsB (.pointer (some ⟨b0, 0, none⟩))) w0 from by rw [hA0e, hw0]]
 clear hw0
 obtain ⟨A, hAe⟩ : ∃ A, A = Aq := ⟨_, rfl⟩
 have hAA : ∀ b o, A0 b o → A b o := fun b o h => hAe ▸ (hA0e ▸ h : subS Aq _ b o).1
 replace hA : AvOK A w := hAe ▸ hA
 have hO : IniOK [ob (.pointer (some ⟨b0, 0, none⟩)) (.box B0 84 E_spec_l1Cur p0)] A w := hAe ▸ hO0
 clear hA0e hO0
 refine calls_of_HT2 [.tmp 2] Tryz.func39 Tryz.ntmps39 (by decide) rfl rfl (Nat.le_of_ble_eq_true rfl) ?_
 intro R hR
 replace h0 : R 0 = .pointer (some ⟨b0, 0, none⟩) := (hR 0 _ rfl).trans h0
 clear hR hAe
 refine HT.seq ?_
 refine HT.text (l := ⟨_, true, .raw (.int .i64 (0 : Int))⟩ :: []) (tl := []) (by kernel_rfl) (by kernel_rfl) (by kernel_rfl) ?_ ?_
 ·exact
   Obls.p (fun R' w' hw hs hd => of_assign rfl) <|
   Obls.nil
 intro R w hw hs hF'
 replace h0 := (hs 0 rfl).trans h0
 replace hO := hO.fr hw
 replace hA := hA.fr hw.size
 replace hF := hF.tr (hw.ch noB) fun _ h => False.elim h
 clear hs hF' hw
 refine seqR_nil ?_
 refine HT.seq ?_
 refine SG.of ?_
 refine SG.textR [ob (.pointer (some ⟨b0, 0, none⟩)) (.box B0 84 E_spec_l1Cur p0)] (⟨_, true, [], none, true, fun A => .raw (.pointer (some ⟨b0, 0, none⟩))⟩ :: ⟨_, true, [], none, true, fun A => .rep (eSl (eInt .i64)) A ([(500 : Int), (300 : Int), (700 : Int), (800 : Int), (1000 : Int), (1 : Int), (333 : Int), (0 : Int), (1001 : Int)] : List Int)⟩ :: []) 2 rfl rfl rfl (by kernel_rfl) (by kernel_rfl) (Wf.mk' (by kernel_rfl) (UAll.cons ust_raw (UAll.cons ust_rep (UAll.nil))) (by kernel_rfl) (by kernel_rfl)) hO hA (trivial) ?_ ?_
 ·exact
   OblsR.p (fun A' R' w' ho hd => of_move ((ho.old 0 rfl).trans h0)) <|
   OblsR.p (fun A' R' w' ho hd => of_build [_, _, _, _, _, _, _, _, _] (E := eInt .i64) ⟨(rep_int.eq rfl), ⟨(rep_int.eq rfl), ⟨(rep_int.eq rfl), ⟨(rep_int.eq rfl), ⟨(rep_int.eq rfl), ⟨(rep_int.eq rfl), ⟨(rep_int.eq rfl), ⟨(rep_int.eq rfl), ⟨(rep_int.eq rfl), trivial⟩⟩⟩⟩⟩⟩⟩⟩⟩ Tryz.underlying43 Tryz.sizeOf3 Tryz.zeroValue3 rfl rfl rfl ho.av) <|
   OblsR.nil
 intro done ρ σ A R w hdn hI
 have z1 := hI.inivR 0 rfl
 have h3 : R 3 = (.pointer (some ⟨b0, 0, none⟩)) := hI.fact hdn (i := 0) rfl rfl rfl
 obtain ⟨u2, h4, f_u2⟩ : ∃ u, R 4 = u ∧ Rep (eSl (eInt .i64)) A w u ([(500 : Int), (300 : Int), (700 : Int), (800 : Int), (1000 : Int), (1 : Int), (333 : Int), (0 : Int), (1001 : Int)] : List Int) := ⟨_, rfl, hI.fact hdn (i := 1) rfl rfl rfl⟩
 replace hAA := hI.lowK hAA hA0 hN (hO.geK (⟨.inr (fun k h => .inr h), trivial⟩))
 replace hF : Ch (ownsB (.pointer (some ⟨b0, 0, none⟩))) w0 w := hF.tr hI.ch (hO.geK (⟨.inr (fun k h => .inr h), trivial⟩))
 replace hO : IniOK [ob (.pointer (some ⟨b0, 0, none⟩)) (.box B0 84 E_spec_l1Cur p0)] A w := hI.left hdn [(0, ob (.pointer (some ⟨b0, 0, none⟩)) (.box B0 84 E_spec_l1Cur p0))] ⟨rfl, rfl, z1, rfl, rfl, trivial⟩
 replace hA := hI.avok
 clear hI
 obtain ⟨x3, q4, hr⟩ := cl_some hr
 have hFz : w0.heap.size ≤ w.heap.size := hF.size
 refine SG.op 5 rfl rfl rfl rfl (call_run Tryz.call61 (M_spec_l1PickInt_ok (q4 rfl) hA h3 (hO.sub [(0, ob (.pointer (some ⟨b0, 0, none⟩)) (.box B0 84 E_spec_l1Cur p0))] ⟨rfl, rfl, trivial⟩) (f_u2.eq h4))) ?_
 rintro v_ w ⟨A, hG1, hv⟩ R hs hd
 have hst := stp_call hA hG1 (hO.ok 0 _ rfl).2
 replace hAA : ∀ b o, A0 b o → A b o := low_callK hAA hA0 hN (hO.geK (⟨.inr (fun k h => .inr h), trivial⟩)) 0 rfl hG1
 replace hF : Ch (ownsB (.pointer (some ⟨b0, 0, none⟩))) w0 w := hF.tr hG1.ch (fun k hk => (hO.geK (⟨.inr (fun k h => .inr h), trivial⟩)) k ⟨0, _, rfl, hk⟩)
 replace hO := GPost.next hO hA 0 rfl hG1
 replace hA := hG1.avok
 replace hO : IniOK [ob (.pointer (some ⟨b0, 0, none⟩)) (.box B0 84 E_spec_l1Cur x3.2)] A w := hO
 replace h3 := (hs 3 rfl).trans h3
 replace h4 := (hs 4 rfl).trans h4
 replace f_u2 := f_u2.stp hst
 have h5 : R 5 = .int .i64 x3.1 := hd.trans hv
 clear hFz hG1 hv hs hd
 refine SG.textR [ob (.pointer (some ⟨b0, 0, none⟩)) (.box B0 84 E_spec_l1Cur x3.2)] (⟨_, true, [], none, true, fun A => .raw (.pointer (some ⟨b0, 0, none⟩))⟩ :: ⟨_, true, [], none, true, fun A => .raw u2⟩ :: ⟨_, true, [], none, true, fun A => .raw (.int .i64 x3.1)⟩ :: ⟨_, true, [], none, true, fun A => .raw (.int .i64 x3.1)⟩ :: []) 4 rfl rfl rfl (by kernel_rfl) (by kernel_rfl) (Wf.mk' (by kernel_rfl) (UAll.cons ust_raw (UAll.cons ust_raw (UAll.cons ust_raw (UAll.cons ust_raw (UAll.nil))))) (by kernel_rfl) (by kernel_rfl)) hO hA (⟨⟨rfl, rfl, rfl, h3⟩, ⟨⟨rfl, rfl, rfl, h4⟩, ⟨⟨rfl, rfl, rfl, h5⟩, trivial⟩⟩⟩) ?_ ?_
 ·exact
   OblsR.p (fun A' R' w' ho hd => by have a0 : R' 5 = .int .i64 x3.1 := hd.g 0 rfl; exact of_assign a0) <|
   OblsR.nil
 intro done ρ σ A R w hdn hI
 have z5 := hI.inivR 0 rfl
 have h2 : R 2 = .int .i64 x3.1 := hI.fact hdn (i := 3) rfl rfl rfl
 replace hAA := hI.lowK hAA hA0 hN (hO.geK (⟨.inr (fun k h => .inr h), trivial⟩))
 replace hF : Ch (ownsB (.pointer (some ⟨b0, 0, none⟩))) w0 w := hF.tr hI.ch (hO.geK (⟨.inr (fun k h => .inr h), trivial⟩))
 replace hO : IniOK [ob (.pointer (some ⟨b0, 0, none⟩)) (.box B0 84 E_spec_l1Cur x3.2)] A w := hI.left hdn [(0, ob (.pointer (some ⟨b0, 0, none⟩)) (.box B0 84 E_spec_l1Cur x3.2))] ⟨rfl, rfl, z5, rfl, rfl, trivial⟩
 replace hA := hI.avok
 clear hI
 refine SG.fin rfl ?_
 refine HT.ret ?_
 obtain rfl := Option.some.inj hr
 obtain ⟨A1, hA1, hG1⟩ := GPost.of hO hA hAA (hO.geK (⟨.inr (fun k h => .inr h), trivial⟩)) hF
 exact ⟨.inr rfl, [R 2], ⟨rfl, trivial⟩, A1, hG1, h2⟩
def M_spec_DrawSharePrefix (fu : Nat) (p0 : List Int) : Option ((List T_impl_TokenCount) × (List (List UInt8)) × (List (List UInt8)) × Int) :=
 cl true (M_spec_l1New fu p0) fun x1 =>
 cl true (M_spec_l11Table fu x1) fun x6 =>
 cl true (M_spec_l3Any fu x6.2) fun x10 =>
 cl true (M_spec_l3Any fu x10.2) fun x14 =>
 cl true (M_spec_l5Level fu x14.2) fun x18 =>
 some (x6.1, x10.1, x14.1, x18.1)
theorem M_spec_DrawSharePrefix_ok {fu : Nat} {A0 : Av} {p0 : List Int} {r : (List T_impl_TokenCount) × (List (List UInt8)) × (List (List UInt8)) × Int} (hr : M_spec_DrawSharePrefix fu p0 = some r) {w : World} {v0 : Value} (hA : AvOK A0 w) (h0 : Rep (eSl (eInt .u8)) A0 w v0 p0) :
  Calls Tryz.prog 6 #[v0] w fun e w' => ∃ v, e = .returned v ∧ ((∃ a b c d, v = .tuple #[a, b, c, d] ∧ Rep (eSl E_impl_TokenCount) A0 w' a r.1 ∧ Rep (eSl eStr) A0 w' b r.2.1 ∧ Rep (eSl eStr) A0 w' c r.2.2.1 ∧ d = .int .i64 r.2.2.2) ∧ Fr w w') := by
 unfold M_spec_DrawSharePrefix at hr
 obtain ⟨w0, hw0⟩ : ∃ w0, w0 = w := ⟨_, rfl⟩
 have hF : Fr w0 w := hw0 ▸ Fr.refl _
 have hA0 : ∀ b o, A0 b o → b < w0.heap.size := fun b o h => hw0 ▸ hA b o h
 have hA00 : AvOK A0 w0 := hA0
 rw [show Fr w = Fr w0 from hw0 ▸ rfl]
 clear hw0
 obtain ⟨A, hAe⟩ : ∃ A, A = A0 := ⟨_, rfl⟩
 have hAA : ∀ b o, A0 b o → A b o := fun b o h => hAe ▸ h
 replace hA : AvOK A w := hAe ▸ hA
 have hO : IniOK [] A w := IniOK.nil
 refine calls_of_HT2 [.tmp 2, .tmp 3, .tmp 4, .tmp 5] Tryz.func6 Tryz.ntmps6 (by decide) rfl rfl (Nat.le_of_ble_eq_true rfl) ?_
 intro R hR
 have f_v0 : Rep (eSl (eInt .u8)) A w v0 p0 := hAe ▸ h0
 replace h0 : R 0 = v0 := hR 0 _ rfl
 clear hR hAe
 refine HT.seq ?_
 refine HT.text (l := ⟨_, true, .rep (eSl E_impl_TokenCount) A ([] : List T_impl_TokenCount)⟩ :: ⟨_, true, .rep (eSl eStr) A ([] : List (List UInt8))⟩ :: ⟨_, true, .rep (eSl eStr) A ([] : List (List UInt8))⟩ :: ⟨_, true, .raw (.int .i64 (0 : Int))⟩ :: []) (tl := []) (by kernel_rfl) (by kernel_rfl) (by kernel_rfl) ?_ ?_
 ·exact
   Obls.p (fun R' w' hw hs hd => of_assign rep_nil) <|
   Obls.p (fun R' w' hw hs hd => of_assign rep_nil) <|
   Obls.p (fun R' w' hw hs hd => of_assign rep_nil) <|
   Obls.p (fun R' w' hw hs hd => of_assign rfl) <|
   Obls.nil
 intro R w hw hs hF'
 replace h0 := (hs 0 rfl).trans h0
 replace f_v0 := f_v0.fr hw
 replace hO := hO.fr hw
 replace hA := hA.fr hw.size
 replace hF := hF.trans hw
 clear hs hF' hw
 refine seqR_nil ?_
 refine HT.seq ?_
 refine SG.of ?_
 refine SG.textR [] (⟨_, true, [], none, true, fun A => .raw v0⟩ :: []) 1 rfl rfl rfl (by kernel_rfl) (by kernel_rfl) (Wf.mk' (by kernel_rfl) (UAll.cons ust_raw (UAll.nil)) (by kernel_rfl) (by kernel_rfl)) hO hA (trivial) ?_ ?_
 ·exact
   OblsR.p (fun A' R' w' ho hd => of_move ((ho.old 0 rfl).trans h0)) <|
   OblsR.nil
 intro done ρ σ A R w hdn hI
 have h7 : R 7 = v0 := hI.fact hdn (i := 0) rfl rfl rfl
 replace f_v0 := f_v0.stp hI.stp
 replace hAA := hI.low' hAA hA0 (hO.ge (trivial))
 replace hF : Fr w0 w := hF.tr hI.ch (hO.ge (trivial))
 replace hO : IniOK [] A w := hI.left hdn [] trivial
 replace hA := hI.avok
 clear hI
 obtain ⟨x1, q2, hr⟩ := cl_some hr
 have hFz : w0.heap.size ≤ w.heap.size := hF.size
 refine SG.op 8 rfl rfl rfl rfl (call_run Tryz.call36 (M_spec_l1New_ok (q2 rfl) hA (f_v0.eq h7))) ?_
 rintro v_ w ⟨b3, A, hG1, hv⟩ R hs hd
 obtain ⟨hO2, hst⟩ := GPost.next0 hO hA hG1
 replace hO := hO2
 replace hA := hG1.avok
 replace hAA : ∀ b o, A0 b o → A b o := fun b o h => hG1.low b o (hAA b o h)
 replace hF : Fr w0 w := hF.trans hG1.ch.no
 replace hO := hO.reX (B' := w0.heap.size) 0 rfl hFz
 replace hO : IniOK [ob (.pointer (some ⟨b3, 0, none⟩)) (.box w0.heap.size 84 E_spec_l1Cur x1)] A w := hO
 replace h7 := (hs 7 rfl).trans h7
 replace f_v0 := f_v0.stp hst
 have h8 : R 8 = (.pointer (some ⟨b3, 0, none⟩)) := hd.trans hv
 clear hFz hG1 hv hs hd
 refine SG.textR [ob (.pointer (some ⟨b3, 0, none⟩)) (.box w0.heap.size 84 E_spec_l1Cur x1)] (⟨_, true, [], none, true, fun A => .raw v0⟩ :: ⟨_, true, [], none, true, fun A => .raw (.pointer (some ⟨b3, 0, none⟩))⟩ :: ⟨_, true, [], none, true, fun A => .raw (.pointer (some ⟨b3, 0, none⟩))⟩ :: []) 3 rfl rfl rfl (by kernel_rfl) (by kernel_rfl) (Wf.mk' (by kernel_rfl) (UAll.cons ust_raw (UAll.cons ust_raw (UAll.cons ust_raw (UAll.nil)))) (by kernel_rfl) (by kernel_rfl)) hO hA (⟨⟨rfl, rfl, rfl, h7⟩, ⟨⟨rfl, rfl, rfl, h8⟩, trivial⟩⟩) ?_ ?_
 ·exact
   OblsR.p (fun A' R' w' ho hd => by have a0 : R' 8 = (.pointer (some ⟨b3, 0, none⟩)) := hd.g 0 rfl; exact of_assign a0) <|
   OblsR.nil
 intro done ρ σ A R w hdn hI
 have z4 := hI.inivR 0 rfl
 have h6 : R 6 = (.pointer (some ⟨b3, 0, none⟩)) := hI.fact hdn (i := 2) rfl rfl rfl
 replace hAA := hI.low' hAA hA0 (hO.ge (⟨rfl, trivial⟩))
 replace hF : Fr w0 w := hF.tr hI.ch (hO.ge (⟨rfl, trivial⟩))
 replace hO : IniOK [ob (.pointer (some ⟨b3, 0, none⟩)) (.box w0.heap.size 84 E_spec_l1Cur x1)] A w := hI.left hdn [(0, ob (.pointer (some ⟨b3, 0, none⟩)) (.box w0.heap.size 84 E_spec_l1Cur x1))] ⟨rfl, rfl, z4, rfl, rfl, trivial⟩
 replace hA := hI.avok
 clear hI
 refine SG.fin rfl ?_
 refine HT.seq ?_
 refine SG.of ?_
 refine SG.textR [ob (.pointer (some ⟨b3, 0, none⟩)) (.box w0.heap.size 84 E_spec_l1Cur x1)] (⟨_, true, [], none, true, fun A => .raw (.pointer (some ⟨b3, 0, none⟩))⟩ :: []) 1 rfl rfl rfl (by kernel_rfl) (by kernel_rfl) (Wf.mk' (by kernel_rfl) (UAll.cons ust_raw (UAll.nil)) (by kernel_rfl) (by kernel_rfl)) hO hA (trivial) ?_ ?_
 ·exact
   OblsR.p (fun A' R' w' ho hd => of_move ((ho.old 6 rfl).trans h6)) <|
   OblsR.nil
 intro done ρ σ A R w hdn hI
 replace h6 : R 6 = (.pointer (some ⟨b3, 0, none⟩)) := (hI.reg rfl).trans h6
 have z5 := hI.inivR 0 rfl
 have h9 : R 9 = (.pointer (some ⟨b3, 0, none⟩)) := hI.fact hdn (i := 0) rfl rfl rfl
 replace hAA := hI.low' hAA hA0 (hO.ge (⟨rfl, trivial⟩))
 replace hF : Fr w0 w := hF.tr hI.ch (hO.ge (⟨rfl, trivial⟩))
 replace hO : IniOK [ob (.pointer (some ⟨b3, 0, none⟩)) (.box w0.heap.size 84 E_spec_l1Cur x1)] A w := hI.left hdn [(0, ob (.pointer (some ⟨b3, 0, none⟩)) (.box w0.heap.size 84 E_spec_l1Cur x1))] ⟨rfl, rfl, z5, rfl, rfl, trivial⟩
 replace hA := hI.avok
 clear hI
 obtain ⟨x6, q7, hr⟩ := cl_some hr
 have hFz : w0.heap.size ≤ w.heap.size := hF.size
 refine SG.op 10 rfl rfl rfl rfl (call_run Tryz.call37 (M_spec_l11Table_ok (q7 rfl) hA h9 (hO.sub [(0, ob (.pointer (some ⟨b3, 0, none⟩)) (.box w0.heap.size 84 E_spec_l1Cur x1))] ⟨rfl, rfl, trivial⟩))) ?_
 rintro v_ w ⟨u8, A, hG1, hv⟩ R hs hd
 have hst := stp_call hA hG1 (hO.ok 0 _ rfl).2
 replace hAA : ∀ b o, A0 b o → A b o := low_call hAA hA0 (hO.ge (⟨rfl, trivial⟩)) 0 rfl hG1
 replace hF : Fr w0 w := hF.tr hG1.ch (fun k hk => (hO.ge (⟨rfl, trivial⟩)) k ⟨0, _, rfl, hk⟩)
 replace hO := GPost.next hO hA 0 rfl hG1
 replace hA := hG1.avok
 replace hO := hO.reV (B' := w0.heap.size) 1 rfl hFz
 replace hO : IniOK [ob (.pointer (some ⟨b3, 0, none⟩)) (.box w0.heap.size 84 E_spec_l1Cur x6.2), ob u8 (.vec w0.heap.size 91 E_impl_TokenCount x6.1)] A w := hO
 replace h6 := (hs 6 rfl).trans h6
 replace h9 := (hs 9 rfl).trans h9
 have h10 : R 10 = u8 := hd.trans hv
 clear hFz hG1 hv hs hd
 replace hO : IniOK [ob u8 (.vec w0.heap.size 91 E_impl_TokenCount x6.1), ob (.pointer (some ⟨b3, 0, none⟩)) (.box w0.heap.size 84 E_spec_l1Cur x6.2)] A w := hO.sub [(1, ob u8 (.vec w0.heap.size 91 E_impl_TokenCount x6.1)), (0, ob (.pointer (some ⟨b3, 0, none⟩)) (.box w0.heap.size 84 E_spec_l1Cur x6.2))] ⟨rfl, rfl, ⟨rfl, rfl, trivial⟩⟩
 obtain ⟨A, hle, hAA, hA, hO, f_u8⟩ := hO.freeze hA hAA hA0
 clear hle
 refine SG.textR [ob (.pointer (some ⟨b3, 0, none⟩)) (.box w0.heap.size 84 E_spec_l1Cur x6.2)] (⟨_, true, [], none, true, fun A => .raw (.pointer (some ⟨b3, 0, none⟩))⟩ :: ⟨_, true, [], none, true, fun A => .raw u8⟩ :: ⟨_, true, [], none, true, fun A => .raw (.pointer (some ⟨b3, 0, none⟩))⟩ :: []) 3 rfl rfl rfl (by kernel_rfl) (by kernel_rfl) (Wf.mk' (by kernel_rfl) (UAll.cons ust_raw (UAll.cons ust_raw (UAll.cons ust_raw (UAll.nil)))) (by kernel_rfl) (by kernel_rfl)) hO hA (⟨⟨rfl, rfl, rfl, h9⟩, ⟨⟨rfl, rfl, rfl, h10⟩, trivial⟩⟩) ?_ ?_
 ·exact
   OblsR.p (fun A' R' w' ho hd => of_move ((ho.old 6 rfl).trans h6)) <|
   OblsR.nil
 intro done ρ σ A R w hdn hI
 replace h6 : R 6 = (.pointer (some ⟨b3, 0, none⟩)) := (hI.reg rfl).trans h6
 have z9 := hI.inivR 0 rfl
 have h10 : R 10 = u8 := hI.fact hdn (i := 1) rfl rfl rfl
 have h11 : R 11 = (.pointer (some ⟨b3, 0, none⟩)) := hI.fact hdn (i := 2) rfl rfl rfl
 replace f_u8 := f_u8.stp hI.stp
 replace hAA := hI.low' hAA hA0 (hO.ge (⟨rfl, trivial⟩))
 replace hF : Fr w0 w := hF.tr hI.ch (hO.ge (⟨rfl, trivial⟩))
 replace hO : IniOK [ob (.pointer (some ⟨b3, 0, none⟩)) (.box w0.heap.size 84 E_spec_l1Cur x6.2)] A w := hI.left hdn [(0, ob (.pointer (some ⟨b3, 0, none⟩)) (.box w0.heap.size 84 E_spec_l1Cur x6.2))] ⟨rfl, rfl, z9, rfl, rfl, trivial⟩
 replace hA := hI.avok
 clear hI
 obtain ⟨x10, q11, hr⟩ := cl_some hr
 have hFz : w0.heap.size ≤ w.heap.size := hF.size
 refine SG.op 12 rfl rfl rfl rfl (call_run Tryz.call38 (M_spec_l3Any_ok (q11 rfl) hA h11 (hO.sub [(0, ob (.pointer (some ⟨b3, 0, none⟩)) (.box w0.heap.size 84 E_spec_l1Cur x6.2))] ⟨rfl, rfl, trivial⟩))) ?_
 rintro v_ w ⟨u12, A, hG1, hv⟩ R hs hd
 have hst := stp_call hA hG1 (hO.ok 0 _ rfl).2
 replace hAA : ∀ b o, A0 b o → A b o := low_call hAA hA0 (hO.ge (⟨rfl, trivial⟩)) 0 rfl hG1
 replace hF : Fr w0 w := hF.tr hG1.ch (fun k hk => (hO.ge (⟨rfl, trivial⟩)) k ⟨0, _, rfl, hk⟩)
 replace hO := GPost.next hO hA 0 rfl hG1
 replace hA := hG1.avok
 replace hO := hO.reV (B' := w0.heap.size) 1 rfl hFz
 replace hO : IniOK [ob (.pointer (some ⟨b3, 0, none⟩)) (.box w0.heap.size 84 E_spec_l1Cur x10.2), ob u12 (.vec w0.heap.size 9 eStr x10.1)] A w := hO
 replace h6 := (hs 6 rfl).trans h6
 replace h10 := (hs 10 rfl).trans h10
 replace h11 := (hs 11 rfl).trans h11
 replace f_u8 := f_u8.stp hst
 have h12 : R 12 = u12 := hd.trans hv
 clear hFz hG1 hv hs hd
 replace hO : IniOK [ob u12 (.vec w0.heap.size 9 eStr x10.1), ob (.pointer (some ⟨b3, 0, none⟩)) (.box w0.heap.size 84 E_spec_l1Cur x10.2)] A w := hO.sub [(1, ob u12 (.vec w0.heap.size 9 eStr x10.1)), (0, ob (.pointer (some ⟨b3, 0, none⟩)) (.box w0.heap.size 84 E_spec_l1Cur x10.2))] ⟨rfl, rfl, ⟨rfl, rfl, trivial⟩⟩
 obtain ⟨A, hle, hAA, hA, hO, f_u12⟩ := hO.freeze hA hAA hA0
 replace f_u8 := f_u8.less hle
 clear hle
 refine SG.textR [ob (.pointer (some ⟨b3, 0, none⟩)) (.box w0.heap.size 84 E_spec_l1Cur x10.2)] (⟨_, true, [], none, true, fun A => .any⟩ :: ⟨_, true, [], none, true, fun A => .raw u8⟩ :: ⟨_, true, [], none, true, fun A => .raw (.pointer (some ⟨b3, 0, none⟩))⟩ :: ⟨_, true, [], none, true, fun A => .raw u12⟩ :: ⟨_, true, [], none, true, fun A => .raw (.pointer (some ⟨b3, 0, none⟩))⟩ :: []) 5 rfl rfl rfl (by kernel_rfl) (by kernel_rfl) (Wf.mk' (by kernel_rfl) (UAll.cons ust_any (UAll.cons ust_raw (UAll.cons ust_raw (UAll.cons ust_raw (UAll.cons ust_raw (UAll.nil)))))) (by kernel_rfl) (by kernel_rfl)) hO hA (⟨⟨rfl, rfl, rfl, trivial⟩, ⟨⟨rfl, rfl, rfl, h10⟩, ⟨⟨rfl, rfl, rfl, h11⟩, ⟨⟨rfl, rfl, rfl, h12⟩, trivial⟩⟩⟩⟩) ?_ ?_
 ·exact
   OblsR.p (fun A' R' w' ho hd => of_move ((ho.old 6 rfl).trans h6)) <|
   OblsR.nil
 intro done ρ σ A R w hdn hI
 replace h6 : R 6 = (.pointer (some ⟨b3, 0, none⟩)) := (hI.reg rfl).trans h6
 have z13 := hI.inivR 0 rfl
 have h10 : R 10 = u8 := hI.fact hdn (i := 1) rfl rfl rfl
 have h12 : R 12 = u12 := hI.fact hdn (i := 3) rfl rfl rfl
 have h13 : R 13 = (.pointer (some ⟨b3, 0, none⟩)) := hI.fact hdn (i := 4) rfl rfl rfl
 replace f_u12 := f_u12.stp hI.stp
 replace f_u8 := f_u8.stp hI.stp
 replace hAA := hI.low' hAA hA0 (hO.ge (⟨rfl, trivial⟩))
 replace hF : Fr w0 w := hF.tr hI.ch (hO.ge (⟨rfl, trivial⟩))
 replace hO : IniOK [ob (.pointer (some ⟨b3, 0, none⟩)) (.box w0.heap.size 84 E_spec_l1Cur x10.2)] A w := hI.left hdn [(0, ob (.pointer (some ⟨b3, 0, none⟩)) (.box w0.heap.size 84 E_spec_l1Cur x10.2))] ⟨rfl, rfl, z13, rfl, rfl, trivial⟩
 replace hA := hI.avok
 clear hI
 obtain ⟨x14, q15, hr⟩ := cl_some hr
 have hFz : w0.heap.size ≤ w.heap.size := hF.size
 refine SG.op 14 rfl rfl rfl rfl (call_run Tryz.call38 (M_spec_l3Any_ok (q15 rfl) hA h13 (hO.sub [(0, ob (.pointer (some ⟨b3, 0, none⟩)) (.box w0.heap.size 84 E_spec_l1Cur x10.2))] ⟨rfl, rfl, trivial⟩))) ?_
 rintro v_ w ⟨u16, A, hG1, hv⟩ R hs hd
 have hst := stp_call hA hG1 (hO.ok 0 _ rfl).2
 replace hAA : ∀ b o, A0 b o → A b o := low_call hAA hA0 (hO.ge (⟨rfl, trivial⟩)) 0 rfl hG1
 replace hF : Fr w0 w := hF.tr hG1.ch (fun k hk => (hO.ge (⟨rfl, trivial⟩)) k ⟨0, _, rfl, hk⟩)
 replace hO := GPost.next hO hA 0 rfl hG1
 replace hA := hG1.avok
 replace hO := hO.reV (B' := w0.heap.size) 1 rfl hFz
 replace hO : IniOK [ob (.pointer (some ⟨b3, 0, none⟩)) (.box w0.heap.size 84 E_spec_l1Cur x14.2), ob u16 (.vec w0.heap.size 9 eStr x14.1)] A w := hO
 replace h6 := (hs 6 rfl).trans h6
 replace h10 := (hs 10 rfl).trans h10
 replace h12 := (hs 12 rfl).trans h12
 replace h13 := (hs 13 rfl).trans h13
 replace f_u12 := f_u12.stp hst
 replace f_u8 := f_u8.stp hst
 have h14 : R 14 = u16 := hd.trans hv
 clear hFz hG1 hv hs hd
 replace hO : IniOK [ob u16 (.vec w0.heap.size 9 eStr x14.1), ob (.pointer (some ⟨b3, 0, none⟩)) (.box w0.heap.size 84 E_spec_l1Cur x14.2)] A w := hO.sub [(1, ob u16 (.vec w0.heap.size 9 eStr x14.1)), (0, ob (.pointer (some ⟨b3, 0, none⟩)) (.box w0.heap.size 84 E_spec_l1Cur x14.2))] ⟨rfl, rfl, ⟨rfl, rfl, trivial⟩⟩
 obtain ⟨A, hle, hAA, hA, hO, f_u16⟩ := hO.freeze hA hAA hA0
 replace f_u12 := f_u12.less hle
 replace f_u8 := f_u8.less hle
 clear hle
 refine SG.textR [ob (.pointer (some ⟨b3, 0, none⟩)) (.box w0.heap.size 84 E_spec_l1Cur x14.2)] (⟨_, true, [], none, true, fun A => .any⟩ :: ⟨_, true, [], none, true, fun A => .raw u8⟩ :: ⟨_, true, [], none, true, fun A => .any⟩ :: ⟨_, true, [], none, true, fun A => .raw u12⟩ :: ⟨_, true, [], none, true, fun A => .raw (.pointer (some ⟨b3, 0, none⟩))⟩ :: ⟨_, true, [], none, true, fun A => .raw u16⟩ :: ⟨_, true, [], none, true, fun A => .raw (.pointer (some ⟨b3, 0, none⟩))⟩ :: []) 7 rfl rfl rfl (by kernel_rfl) (by kernel_rfl) (Wf.mk' (by kernel_rfl) (UAll.cons ust_any (UAll.cons ust_raw (UAll.cons ust_any (UAll.cons ust_raw (UAll.cons ust_raw (UAll.cons ust_raw (UAll.cons ust_raw (UAll.nil)))))))) (by kernel_rfl) (by kernel_rfl)) hO hA (⟨⟨rfl, rfl, rfl, trivial⟩, ⟨⟨rfl, rfl, rfl, h10⟩, ⟨⟨rfl, rfl, rfl, trivial⟩, ⟨⟨rfl, rfl, rfl, h12⟩, ⟨⟨rfl, rfl, rfl, h13⟩, ⟨⟨rfl, rfl, rfl, h14⟩, trivial⟩⟩⟩⟩⟩⟩) ?_ ?_
 ·exact
   OblsR.p (fun A' R' w' ho hd => of_move ((ho.old 6 rfl).trans h6)) <|
   OblsR.nil
 intro done ρ σ A R w hdn hI
 have z17 := hI.inivR 0 rfl
 have h10 : R 10 = u8 := hI.fact hdn (i := 1) rfl rfl rfl
 have h12 : R 12 = u12 := hI.fact hdn (i := 3) rfl rfl rfl
 have h14 : R 14 = u16 := hI.fact hdn (i := 5) rfl rfl rfl
 have h15 : R 15 = (.pointer (some ⟨b3, 0, none⟩)) := hI.fact hdn (i := 6) rfl rfl rfl
 replace f_u12 := f_u12.stp hI.stp
 replace f_u16 := f_u16.stp hI.stp
 replace f_u8 := f_u8.stp hI.stp
 replace hAA := hI.low' hAA hA0 (hO.ge (⟨rfl, trivial⟩))
 replace hF : Fr w0 w := hF.tr hI.ch (hO.ge (⟨rfl, trivial⟩))
 replace hO : IniOK [ob (.pointer (some ⟨b3, 0, none⟩)) (.box w0.heap.size 84 E_spec_l1Cur x14.2)] A w := hI.left hdn [(0, ob (.pointer (some ⟨b3, 0, none⟩)) (.box w0.heap.size 84 E_spec_l1Cur x14.2))] ⟨rfl, rfl, z17, rfl, rfl, trivial⟩
 replace hA := hI.avok
 clear hI
 obtain ⟨x18, q19, hr⟩ := cl_some hr
 have hFz : w0.heap.size ≤ w.heap.size := hF.size
 refine SG.op 16 rfl rfl rfl rfl (call_run Tryz.call39 (M_spec_l5Level_ok (q19 rfl) hA h15 (hO.sub [(0, ob (.pointer (some ⟨b3, 0, none⟩)) (.box w0.heap.size 84 E_spec_l1Cur x14.2))] ⟨rfl, rfl, trivial⟩))) ?_
 rintro v_ w ⟨A, hG1, hv⟩ R hs hd
 have hst := stp_call hA hG1 (hO.ok 0 _ rfl).2
 replace hAA : ∀ b o, A0 b o → A b o := low_call hAA hA0 (hO.ge (⟨rfl, trivial⟩)) 0 rfl hG1
 replace hF : Fr w0 w := hF.tr hG1.ch (fun k hk => (hO.ge (⟨rfl, trivial⟩)) k ⟨0, _, rfl, hk⟩)
 replace hO := GPost.next hO hA 0 rfl hG1
 replace hA := hG1.avok
 replace hO : IniOK [ob (.pointer (some ⟨b3, 0, none⟩)) (.box w0.heap.size 84 E_spec_l1Cur x18.2)] A w := hO
 replace h10 := (hs 10 rfl).trans h10
 replace h12 := (hs 12 rfl).trans h12
 replace h14 := (hs 14 rfl).trans h14
 replace h15 := (hs 15 rfl).trans h15
 replace f_u12 := f_u12.stp hst
 replace f_u16 := f_u16.stp hst
 replace f_u8 := f_u8.stp hst
 have h16 : R 16 = .int .i64 x18.1 := hd.trans hv
 clear hFz hG1 hv hs hd
 refine SG.textR [ob (.pointer (some ⟨b3, 0, none⟩)) (.box w0.heap.size 84 E_spec_l1Cur x18.2)] (⟨_, true, [], none, true, fun A => .any⟩ :: ⟨_, true, [], none, true, fun A => .raw u8⟩ :: ⟨_, true, [], none, true, fun A => .any⟩ :: ⟨_, true, [], none, true, fun A => .raw u12⟩ :: ⟨_, true, [], none, true, fun A => .any⟩ :: ⟨_, true, [], none, true, fun A => .raw u16⟩ :: ⟨_, true, [], none, true, fun A => .raw (.pointer (some ⟨b3, 0, none⟩))⟩ :: ⟨_, true, [], none, true, fun A => .raw (.int .i64 x18.1)⟩ :: ⟨_, true, [], none, true, fun A => .raw u8⟩ :: ⟨_, true, [], none, true, fun A => .raw u12⟩ :: ⟨_, true, [], none, true, fun A => .raw u16⟩ :: ⟨_, true, [], none, true, fun A => .raw (.int .i64 x18.1)⟩ :: []) 12 rfl rfl rfl (by kernel_rfl) (by kernel_rfl) (Wf.mk' (by kernel_rfl) (UAll.cons ust_any (UAll.cons ust_raw (UAll.cons ust_any (UAll.cons ust_raw (UAll.cons ust_any (UAll.cons ust_raw (UAll.cons ust_raw (UAll.cons ust_raw (UAll.cons ust_raw (UAll.cons ust_raw (UAll.cons ust_raw (UAll.cons ust_raw (UAll.nil))))))))))))) (by kernel_rfl) (by kernel_rfl)) hO hA (⟨⟨rfl, rfl, rfl, trivial⟩, ⟨⟨rfl, rfl, rfl, h10⟩, ⟨⟨rfl, rfl, rfl, trivial⟩, ⟨⟨rfl, rfl, rfl, h12⟩, ⟨⟨rfl, rfl, rfl, trivial⟩, ⟨⟨rfl, rfl, rfl, h14⟩, ⟨⟨rfl, rfl, rfl, h15⟩, ⟨⟨rfl, rfl, rfl, h16⟩, trivial⟩⟩⟩⟩⟩⟩⟩⟩) ?_ ?_
 ·exact
   OblsR.p (fun A' R' w' ho hd => by have a0 : R' 10 = u8 := hd.g 0 rfl; exact of_assign a0) <|
   OblsR.p (fun A' R' w' ho hd => by have a0 : R' 12 = u12 := hd.g 0 rfl; exact of_assign a0) <|
   OblsR.p (fun A' R' w' ho hd => by have a0 : R' 14 = u16 := hd.g 0 rfl; exact of_assign a0) <|
   OblsR.p (fun A' R' w' ho hd => by have a0 : R' 16 = .int .i64 x18.1 := hd.g 0 rfl; exact of_assign a0) <|
   OblsR.nil
 intro done ρ σ A R w hdn hI
 have z20 := hI.inivR 0 rfl
 have h2 : R 2 = u8 := hI.fact hdn (i := 8) rfl rfl rfl
 have h3 : R 3 = u12 := hI.fact hdn (i := 9) rfl rfl rfl
 have h4 : R 4 = u16 := hI.fact hdn (i := 10) rfl rfl rfl
 have h5 : R 5 = .int .i64 x18.1 := hI.fact hdn (i := 11) rfl rfl rfl
 replace f_u12 := f_u12.stp hI.stp
 replace f_u16 := f_u16.stp hI.stp
 replace f_u8 := f_u8.stp hI.stp
 replace hAA := hI.low' hAA hA0 (hO.ge (⟨rfl, trivial⟩))
 replace hF : Fr w0 w := hF.tr hI.ch (hO.ge (⟨rfl, trivial⟩))
 replace hO : IniOK [] A w := hI.left hdn [] trivial
 replace hA := hI.avok
 clear hI
 refine SG.fin rfl ?_
 refine HT.ret ?_
 obtain rfl := Option.some.inj hr
 exact ⟨.inr rfl, [R 2, R 3, R 4, R 5], ⟨rfl, ⟨rfl, ⟨rfl, ⟨rfl, trivial⟩⟩⟩⟩, ⟨_, _, _, _, rfl, (f_u8.eq h2).down hAA, (f_u12.eq h3).down hAA, (f_u16.eq h4).down hAA, h5⟩, hF⟩
def M_impl_within (fu : Nat) (p0 : Int) (p1 : Int) (p2 : Int) : Option Bool :=
 bd ((decide (p1 ≤ p0)) && (decide (p0 ≤ p2))) fun x1 =>
 some x1
theorem M_impl_within_ok {fu : Nat} {A : Av} {p0 : Int} {p1 : Int} {p2 : Int} {r : Bool} (hr : M_impl_within fu p0 p1 p2 = some r) {w : World} {v0 : Value} {v1 : Value} {v2 : Value} (hA : AvOK A w) (h0 : v0 = .int .i64 p0) (h1 : v1 = .int .i64 p1) (h2 : v2 = .int .i64 p2) :
  Calls Tryz.prog 58 #[v0, v1, v2] w fun e w' => ∃ v, e = .returned v ∧ (v = .bool r ∧ Fr w w') := by
 unfold M_impl_within at hr
 obtain ⟨w0, hw0⟩ : ∃ w0, w0 = w := ⟨_, rfl⟩
 have hF : Fr w0 w := hw0 ▸ Fr.refl _
 rw [show Fr w = Fr w0 from hw0 ▸ rfl]
 clear hw0
 refine calls_of_HT2 [.tmp 6] Tryz.func58 Tryz.ntmps58 (by decide) rfl rfl (Nat.le_of_ble_eq_true rfl) ?_
 intro R hR
 replace h0 : R 0 = .int .i64 p0 := (hR 0 _ rfl).trans h0
 replace h1 : R 1 = .int .i64 p1 := (hR 1 _ rfl).trans h1
 replace h2 : R 2 = .int .i64 p2 := (hR 2 _ rfl).trans h2
 clear hR
 refine HT.seq ?_
 refine HT.text (l := ⟨_, true, .raw (.bool false)⟩ :: []) (tl := []) (by kernel_rfl) (by kernel_rfl) (by kernel_rfl) ?_ ?_
 ·exact
   Obls.p (fun R' w' hw hs hd => of_assign rfl) <|
   Obls.nil
 intro R w hw hs hF'
 replace h0 := (hs 0 rfl).trans h0
 replace h1 := (hs 1 rfl).trans h1
 replace h2 := (hs 2 rfl).trans h2
 replace hA := hA.fr hw.size
 replace hF := hF.trans hw
 clear hs hF' hw
 refine seqR_nil ?_
 refine HT.seq ?_
 obtain ⟨x1, q2, hr⟩ := bd_some hr
 refine HT.text (l := ⟨_, true, .raw (.int .i64 p0)⟩ :: ⟨_, true, .raw (.int .i64 p1)⟩ :: ⟨_, true, .raw (.bool (decide (p1 ≤ p0)))⟩ :: ⟨_, true, .raw (.bool (decide (p1 ≤ p0)))⟩ :: ⟨_, (true && ((decide (p1 ≤ p0)) == true)), .raw (.int .i64 p0)⟩ :: ⟨_, (true && ((decide (p1 ≤ p0)) == true)), .raw (.int .i64 p2)⟩ :: ⟨_, (true && ((decide (p1 ≤ p0)) == true)), .raw (.bool (decide (p0 ≤ p2)))⟩ :: ⟨_, true, .raw (.bool x1)⟩ :: ⟨_, true, .raw (.bool x1)⟩ :: []) (tl := []) (by kernel_rfl) (by kernel_rfl) (by kernel_rfl) ?_ ?_
 ·exact
   Obls.p (fun R' w' hw hs hd => of_move ((hs 0 rfl).trans h0)) <|
   Obls.p (fun R' w' hw hs hd => of_move ((hs 1 rfl).trans h1)) <|
   Obls.p (fun R' w' hw hs hd => by have a0 : R' 7 = .int .i64 p0 := hd.g 0 rfl; have a1 : R' 8 = .int .i64 p1 := hd.g 1 rfl; exact of_geq a0 a1) <|
   Obls.p (fun R' w' hw hs hd => by have a0 : R' 9 = .bool (decide (p1 ≤ p0)) := hd.g 0 rfl; exact of_move a0) <|
   Obls.cons (Obl.grd 3 true _ _ _ rfl rfl rfl rfl rfl (by kernel_rfl) fun hg R' w' hw hs hd => by have a0 : R' 0 = .int .i64 p0 := (hs 0 rfl).trans h0; exact of_move a0) <|
   Obls.cons (Obl.grd 3 true _ _ _ rfl rfl rfl rfl rfl (by kernel_rfl) fun hg R' w' hw hs hd => by have a0 : R' 2 = .int .i64 p2 := (hs 2 rfl).trans h2; exact of_move a0) <|
   Obls.cons (Obl.grd 3 true _ _ _ rfl rfl rfl rfl rfl (by kernel_rfl) fun hg R' w' hw hs hd => by have a0 : R' 11 = .int .i64 p0 := hd 0 _ _ _ rfl rfl rfl rfl hg; have a1 : R' 12 = .int .i64 p2 := hd 1 _ _ _ rfl rfl rfl rfl hg; exact of_leq a0 a1) <|
   Obls.p (fun R' w' hw hs hd => by have a0 : R' 10 = .bool (decide (p1 ≤ p0)) := hd.g 0 rfl; exact of_pick (decide (p1 ≤ p0)) a0 (fun hc => by have a1 : R' 13 = .bool (decide (p0 ≤ p2)) := hd 1 _ _ _ rfl rfl rfl rfl (g_and rfl (beq_of hc)); show _ = Value.bool x1; rw [q2, hc]; exact a1) (fun hc => by show _ = Value.bool x1; rw [q2, hc]; exact rfl)) <|
   Obls.p (fun R' w' hw hs hd => by have a0 : R' 14 = .bool x1 := hd.g 0 rfl; exact of_assign a0) <|
   Obls.nil
 intro R w hw hs hF'
 have h6 : R 6 = .bool x1 := hF' 8 _ _ rfl rfl rfl
 replace hA := hA.fr hw.size
 replace hF := hF.trans hw
 clear hs hF' hw
 refine seqR_nil ?_
 refine HT.ret ?_
 obtain rfl := Option.some.inj hr
 exact ⟨.inr rfl, [R 6], ⟨rfl, trivial⟩, h6, hF⟩
def M_impl_isSize (fu : Nat) (p0 : Int) : Option Bool :=
 cl true (M_impl_within fu p0 (0 : Int) (1000 : Int)) fun x1 =>
 some x1
theorem M_impl_isSize_ok {fu : Nat} {A : Av} {p0 : Int} {r : Bool} (hr : M_impl_isSize fu p0 = some r) {w : World} {v0 : Value} (hA : AvOK A w) (h0 : v0 = .int .i64 p0) :
  Calls Tryz.prog 46 #[v0] w fun e w' => ∃ v, e = .returned v ∧ (v = .bool r ∧ Fr w w') := by
 unfold M_impl_isSize at hr
 obtain ⟨w0, hw0⟩ : ∃ w0, w0 = w := ⟨_, rfl⟩
 have hF : Fr w0 w := hw0 ▸ Fr.refl _
 rw [show Fr w = Fr w0 from hw0 ▸ rfl]
 clear hw0
 refine calls_of_HT2 [.tmp 2] Tryz.func46 Tryz.ntmps46 (by decide) rfl rfl (Nat.le_of_ble_eq_true rfl) ?_
 intro R hR
 replace h0 : R 0 = .int .i64 p0 := (hR 0 _ rfl).trans h0
 clear hR
 refine HT.seq ?_
 refine HT.text (l := ⟨_, true, .raw (.bool false)⟩ :: []) (tl := []) (by kernel_rfl) (by kernel_rfl) (by kernel_rfl) ?_ ?_
 ·exact
   Obls.p (fun R' w' hw hs hd => of_assign rfl) <|
   Obls.nil
 intro R w hw hs hF'
 replace h0 := (hs 0 rfl).trans h0
 replace hA := hA.fr hw.size
 replace hF := hF.trans hw
 clear hs hF' hw
 refine seqR_nil ?_
 refine HT.seq ?_
 obtain ⟨x1, q2, hr⟩ := cl_some hr
 refine HT.text (l := ⟨_, true, .raw (.int .i64 p0)⟩ :: ⟨_, true, .raw (.bool x1)⟩ :: ⟨_, true, .raw (.bool x1)⟩ :: []) (tl := []) (by kernel_rfl) (by kernel_rfl) (by kernel_rfl) ?_ ?_
 ·exact
   Obls.p (fun R' w' hw hs hd => of_move ((hs 0 rfl).trans h0)) <|
   Obls.p (fun R' w' hw hs hd => by have a0 : R' 3 = .int .i64 p0 := hd.g 0 rfl; exact of_call Tryz.call58 (M_impl_within_ok (q2 rfl) (hA.fr hw.size) a0 rfl rfl)) <|
   Obls.p (fun R' w' hw hs hd => by have a0 : R' 4 = .bool x1 := hd.g 0 rfl; exact of_assign a0) <|
   Obls.nil
 intro R w hw hs hF'
 have h2 : R 2 = .bool x1 := hF' 2 _ _ rfl rfl rfl
 replace hA := hA.fr hw.size
 replace hF := hF.trans hw
 clear hs hF' hw
 refine seqR_nil ?_
 refine HT.ret ?_
 obtain rfl := Option.some.inj hr
 exact ⟨.inr rfl, [R 2], ⟨rfl, trivial⟩, h2, hF⟩
def M_impl_isThreshold (fu : Nat) (p0 : Int) : Option Bool :=
 cl true (M_impl_within fu p0 (1 : Int) (1000 : Int)) fun x1 =>
 some x1
theorem M_impl_isThreshold_ok {fu : Nat} {A : Av} {p0 : Int} {r : Bool} (hr : M_impl_isThreshold fu p0 = some r) {w : World} {v0 : Value} (hA : AvOK A w) (h0 : v0 = .int .i64 p0) :
  Calls Tryz.prog 47 #[v0] w fun e w' => ∃ v, e = .returned v ∧ (v = .bool r ∧ Fr w w') := by
 unfold M_impl_isThreshold at hr
 obtain ⟨w0, hw0⟩ : ∃ w0, w0 = w := ⟨_, rfl⟩
 have hF : Fr w0 w := hw0 ▸ Fr.refl _
 rw [show Fr w = Fr w0 from hw0 ▸ rfl]
 clear hw0
 refine calls_of_HT2 [.tmp 2] Tryz.func47 Tryz.ntmps47 (by decide) rfl rfl (Nat.le_of_ble_eq_true rfl) ?_
 intro R hR
 replace h0 : R 0 = .int .i64 p0 := (hR 0 _ rfl).trans h0
 clear hR
 refine HT.seq ?_
 refine HT.text (l := ⟨_, true, .raw (.bool false)⟩ :: []) (tl := []) (by kernel_rfl) (by kernel_rfl) (by kernel_rfl) ?_ ?_
 ·exact
   Obls.p (fun R' w' hw hs hd => of_assign rfl) <|
   Obls.nil
 intro R w hw hs hF'
 replace h0 := (hs 0 rfl).trans h0
 replace hA := hA.fr hw.size
 replace hF := hF.trans hw
 clear hs hF' hw
 refine seqR_nil ?_
 refine HT.seq ?_
 obtain ⟨x1, q2, hr⟩ := cl_some hr
 refine HT.text (l := ⟨_, true, .raw (.int .i64 p0)⟩ :: ⟨_, true, .raw (.bool x1)⟩ :: ⟨_, true, .raw (.bool x1)⟩ :: []) (tl := []) (by kernel_rfl) (by kernel_rfl) (by kernel_rfl) ?_ ?_
 ·exact
   Obls.p (fun R' w' hw hs hd => of_move ((hs 0 rfl).trans h0)) <|
   Obls.p (fun R' w' hw hs hd => by have a0 : R' 3 = .int .i64 p0 := hd.g 0 rfl; exact of_call Tryz.call58 (M_impl_within_ok (q2 rfl) (hA.fr hw.size) a0 rfl rfl)) <|
   Obls.p (fun R' w' hw hs hd => by have a0 : R' 4 = .bool x1 := hd.g 0 rfl; exact of_assign a0) <|
   Obls.nil
 intro R w hw hs hF'
 have h2 : R 2 = .bool x1 := hF' 2 _ _ rfl rfl rfl
 replace hA := hA.fr hw.size
 replace hF := hF.trans hw
 clear hs hF' hw
 refine seqR_nil ?_
 refine HT.ret ?_
 obtain rfl := Option.some.inj hr
 exact ⟨.inr rfl, [R 2], ⟨rfl, trivial⟩, h2, hF⟩
def M_impl_ceilDiv (fu : Nat) (p0 : Int) (p1 : Int) : Option Int :=
 ck (i64B (p0 + p1)) <|
 ck (i64B ((p0 + p1) - (1 : Int))) <|
 ck (p1 != 0) <|
 ck (i64B (((p0 + p1) - (1 : Int)).tdiv p1)) <|
 some (((p0 + p1) - (1 : Int)).tdiv p1)
theorem M_impl_ceilDiv_ok {fu : Nat} {A : Av} {p0 : Int} {p1 : Int} {r : Int} (hr : M_impl_ceilDiv fu p0 p1 = some r) {w : World} {v0 : Value} {v1 : Value} (hA : AvOK A w) (h0 : v0 = .int .i64 p0) (h1 : v1 = .int .i64 p1) :
  Calls Tryz.prog 52 #[v0, v1] w fun e w' => ∃ v, e = .returned v ∧ (v = .int .i64 r ∧ Fr w w') := by
 unfold M_impl_ceilDiv at hr
 obtain ⟨w0, hw0⟩ : ∃ w0, w0 = w := ⟨_, rfl⟩
 have hF : Fr w0 w := hw0 ▸ Fr.refl _
 rw [show Fr w = Fr w0 from hw0 ▸ rfl]
 clear hw0
 refine calls_of_HT2 [.tmp 4] Tryz.func52 Tryz.ntmps52 (by decide) rfl rfl (Nat.le_of_ble_eq_true rfl) ?_
 intro R hR
 replace h0 : R 0 = .int .i64 p0 := (hR 0 _ rfl).trans h0
 replace h1 : R 1 = .int .i64 p1 := (hR 1 _ rfl).trans h1
 clear hR
 refine HT.seq ?_
 refine HT.text (l := ⟨_, true, .raw (.int .i64 (0 : Int))⟩ :: []) (tl := []) (by kernel_rfl) (by kernel_rfl) (by kernel_rfl) ?_ ?_
 ·exact
   Obls.p (fun R' w' hw hs hd => of_assign rfl) <|
   Obls.nil
 intro R w hw hs hF'
 replace h0 := (hs 0 rfl).trans h0
 replace h1 := (hs 1 rfl).trans h1
 replace hA := hA.fr hw.size
 replace hF := hF.trans hw
 clear hs hF' hw
 refine seqR_nil ?_
 refine HT.seq ?_
 obtain ⟨e1, hr⟩ := ck_some hr
 obtain ⟨e2, hr⟩ := ck_some hr
 obtain ⟨e3, hr⟩ := ck_some hr
 obtain ⟨e4, hr⟩ := ck_some hr
 refine HT.text (l := ⟨_, true, .raw (.int .i64 p0)⟩ :: ⟨_, true, .raw (.int .i64 p1)⟩ :: ⟨_, true, .raw (.int .i64 (p0 + p1))⟩ :: ⟨_, true, .raw (.int .i64 ((p0 + p1) - (1 : Int)))⟩ :: ⟨_, true, .raw (.int .i64 p1)⟩ :: ⟨_, true, .raw (.int .i64 (((p0 + p1) - (1 : Int)).tdiv p1))⟩ :: ⟨_, true, .raw (.int .i64 (((p0 + p1) - (1 : Int)).tdiv p1))⟩ :: []) (tl := []) (by kernel_rfl) (by kernel_rfl) (by kernel_rfl) ?_ ?_
 ·exact
   Obls.p (fun R' w' hw hs hd => of_move ((hs 0 rfl).trans h0)) <|
   Obls.p (fun R' w' hw hs hd => of_move ((hs 1 rfl).trans h1)) <|
   Obls.p (fun R' w' hw hs hd => by have a0 : R' 5 = .int .i64 p0 := hd.g 0 rfl; have a1 : R' 6 = .int .i64 p1 := hd.g 1 rfl; exact of_add a0 a1 e1) <|
   Obls.p (fun R' w' hw hs hd => by have a0 : R' 7 = .int .i64 (p0 + p1) := hd.g 0 rfl; exact of_sub a0 rfl e2) <|
   Obls.p (fun R' w' hw hs hd => of_move ((hs 1 rfl).trans h1)) <|
   Obls.p (fun R' w' hw hs hd => by have a0 : R' 8 = .int .i64 ((p0 + p1) - (1 : Int)) := hd.g 0 rfl; have a1 : R' 9 = .int .i64 p1 := hd.g 1 rfl; exact of_quo a0 a1 e3 e4) <|
   Obls.p (fun R' w' hw hs hd => by have a0 : R' 10 = .int .i64 (((p0 + p1) - (1 : Int)).tdiv p1) := hd.g 0 rfl; exact of_assign a0) <|
   Obls.nil
 intro R w hw hs hF'
 have h4 : R 4 = .int .i64 (((p0 + p1) - (1 : Int)).tdiv p1) := hF' 6 _ _ rfl rfl rfl
 replace hA := hA.fr hw.size
 replace hF := hF.trans hw
 clear hs hF' hw
 refine seqR_nil ?_
 refine HT.ret ?_
 obtain rfl := Option.some.inj hr
 exact ⟨.inr rfl, [R 4], ⟨rfl, trivial⟩, h4, hF⟩
def M_impl_LengthBounds (fu : Nat) (p0 : Int) (p1 : Int) : Option (Int × Int) :=
 cl true (M_impl_isSize fu p0) fun x1 =>
 cl (true && ((!x1) == false)) (M_impl_isThreshold fu p1) fun x3 =>
 bd ((!x1) || (!x3)) fun x5 =>
 bif x5 then (
  some ((-1 : Int), (-1 : Int))
 ) else (
  ck (i64B (p0 * p1)) <|
  cl true (M_impl_ceilDiv fu (p0 * p1) (1000 : Int)) fun x9 =>
  ck (i64B (p0 * (1000 : Int))) <|
  ck (p1 != 0) <|
  ck (i64B ((p0 * (1000 : Int)).tdiv p1)) <|
  some (x9, ((p0 * (1000 : Int)).tdiv p1))
 )
theorem M_impl_LengthBounds_ok {fu : Nat} {A : Av} {p0 : Int} {p1 : Int} {r : Int × Int} (hr : M_impl_LengthBounds fu p0 p1 = some r) {w : World} {v0 : Value} {v1 : Value} (hA : AvOK A w) (h0 : v0 = .int .i64 p0) (h1 : v1 = .int .i64 p1) :
  Calls Tryz.prog 14 #[v0, v1] w fun e w' => ∃ v, e = .returned v ∧ ((∃ a b, v = .tuple #[a, b] ∧ a = .int .i64 r.1 ∧ b = .int .i64 r.2) ∧ Fr w w') := by
 unfold M_impl_LengthBounds at hr
 obtain ⟨w0, hw0⟩ : ∃ w0, w0 = w := ⟨_, rfl⟩
 have hF : Fr w0 w := hw0 ▸ Fr.refl _
 rw [show Fr w = Fr w0 from hw0 ▸ rfl]
 clear hw0
 refine calls_of_HT2 [.tmp 4, .tmp 5] Tryz.func14 Tryz.ntmps14 (by decide) rfl rfl (Nat.le_of_ble_eq_true rfl) ?_
 intro R hR
 replace h0 : R 0 = .int .i64 p0 := (hR 0 _ rfl).trans h0
 replace h1 : R 1 = .int .i64 p1 := (hR 1 _ rfl).trans h1
 clear hR
 refine HT.seq ?_
 refine HT.text (l := ⟨_, true, .raw (.int .i64 (0 : Int))⟩ :: ⟨_, true, .raw (.int .i64 (0 : Int))⟩ :: []) (tl := []) (by kernel_rfl) (by kernel_rfl) (by kernel_rfl) ?_ ?_
 ·exact
   Obls.p (fun R' w' hw hs hd => of_assign rfl) <|
   Obls.p (fun R' w' hw hs hd => of_assign rfl) <|
   Obls.nil
 intro R w hw hs hF'
 replace h0 := (hs 0 rfl).trans h0
 replace h1 := (hs 1 rfl).trans h1
 replace hA := hA.fr hw.size
 replace hF := hF.trans hw
 clear hs hF' hw
 refine seqR_nil ?_
 refine HT.seq ?_
 refine HT.seq ?_
 obtain ⟨x1, q2, hr⟩ := cl_some hr
 obtain ⟨x3, q4, hr⟩ := cl_some hr
 obtain ⟨x5, q6, hr⟩ := bd_some hr
 refine HT.text (l := ⟨_, true, .raw (.int .i64 p0)⟩ :: ⟨_, true, .raw (.bool x1)⟩ :: ⟨_, true, .raw (.bool (!x1))⟩ :: ⟨_, true, .raw (.bool (!x1))⟩ :: ⟨_, (true && ((!x1) == false)), .raw (.int .i64 p1)⟩ :: ⟨_, (true && ((!x1) == false)), .raw (.bool x3)⟩ :: ⟨_, (true && ((!x1) == false)), .raw (.bool (!x3))⟩ :: ⟨_, true, .raw (.bool x5)⟩ :: []) (tl := []) (by kernel_rfl) (by kernel_rfl) (by kernel_rfl) ?_ ?_
 ·exact
   Obls.p (fun R' w' hw hs hd => of_move ((hs 0 rfl).trans h0)) <|
   Obls.p (fun R' w' hw hs hd => by have a0 : R' 6 = .int .i64 p0 := hd.g 0 rfl; exact of_call Tryz.call46 (M_impl_isSize_ok (q2 rfl) (hA.fr hw.size) a0)) <|
   Obls.p (fun R' w' hw hs hd => by have a0 : R' 7 = .bool x1 := hd.g 0 rfl; exact of_not a0) <|
   Obls.p (fun R' w' hw hs hd => by have a0 : R' 8 = .bool (!x1) := hd.g 0 rfl; exact of_move a0) <|
   Obls.cons (Obl.grd 3 false _ _ _ rfl rfl rfl rfl rfl (by kernel_rfl) fun hg R' w' hw hs hd => by have a0 : R' 1 = .int .i64 p1 := (hs 1 rfl).trans h1; exact of_move a0) <|
   Obls.cons (Obl.grd 3 false _ _ _ rfl rfl rfl rfl rfl (by kernel_rfl) fun hg R' w' hw hs hd => by have a0 : R' 10 = .int .i64 p1 := hd 0 _ _ _ rfl rfl rfl rfl hg; exact of_call Tryz.call47 (M_impl_isThreshold_ok (q4 hg) (hA.fr hw.size) a0)) <|
   Obls.cons (Obl.grd 3 false _ _ _ rfl rfl rfl rfl rfl (by kernel_rfl) fun hg R' w' hw hs hd => by have a0 : R' 11 = .bool x3 := hd 0 _ _ _ rfl rfl rfl rfl hg; exact of_not a0) <|
   Obls.p (fun R' w' hw hs hd => by have a0 : R' 9 = .bool (!x1) := hd.g 0 rfl; exact of_pick (!x1) a0 (fun hc => by show _ = Value.bool x5; rw [q6, hc]; exact rfl) (fun hc => by have a2 : R' 12 = .bool (!x3) := hd 1 _ _ _ rfl rfl rfl rfl (g_and rfl (beq_of hc)); show _ = Value.bool x5; rw [q6, hc]; exact a2)) <|
   Obls.nil
 intro R w hw hs hF'
 replace h0 := (hs 0 rfl).trans h0
 replace h1 := (hs 1 rfl).trans h1
 have h13 : R 13 = .bool x5 := hF' 7 _ _ rfl rfl rfl
 replace hA := hA.fr hw.size
 replace hF := hF.trans hw
 clear hs hF' hw
 refine seqR_nil ?_
 refine HT.cond x5 h13 (fun c7 => ?_) (fun c7 => ?_)
 ·have hr := cnd_t c7 hr
  refine HT.seq ?_
  refine HT.text (l := ⟨_, true, .raw (.int .i64 (-1 : Int))⟩ :: ⟨_, true, .raw (.int .i64 (-1 : Int))⟩ :: []) (tl := []) (by kernel_rfl) (by kernel_rfl) (by kernel_rfl) ?_ ?_
  ·exact
    Obls.p (fun R' w' hw hs hd => of_assign rfl) <|
    Obls.p (fun R' w' hw hs hd => of_assign rfl) <|
    Obls.nil
  intro R w hw hs hF'
  have h4 : R 4 = .int .i64 (-1 : Int) := hF' 0 _ _ rfl rfl rfl
  have h5 : R 5 = .int .i64 (-1 : Int) := hF' 1 _ _ rfl rfl rfl
  replace hA := hA.fr hw.size
  replace hF := hF.trans hw
  clear hs hF' hw
  refine seqR_nil ?_
  refine HT.ret ?_
  obtain rfl := Option.some.inj hr
  exact ⟨.inr rfl, [R 4, R 5], ⟨rfl, ⟨rfl, trivial⟩⟩, ⟨_, _, rfl, h4, h5⟩, hF⟩
 ·have hr := cnd_f c7 hr
  refine HT.skip ?_
  refine HT.seq ?_
  obtain ⟨e8, hr⟩ := ck_some hr
  obtain ⟨x9, q10, hr⟩ := cl_some hr
  obtain ⟨e11, hr⟩ := ck_some hr
  obtain ⟨e12, hr⟩ := ck_some hr
  obtain ⟨e13, hr⟩ := ck_some hr
  refine HT.draw (by kernel_rfl) (l := ⟨_, true, .raw (.int .i64 p0)⟩ :: ⟨_, true, .raw (.int .i64 p1)⟩ :: ⟨_, true, .raw (.int .i64 (p0 * p1))⟩ :: ⟨_, true, .raw (.int .i64 x9)⟩ :: ⟨_, true, .raw (.int .i64 p0)⟩ :: ⟨_, true, .raw (.int .i64 (p0 * (1000 : Int)))⟩ :: ⟨_, true, .raw (.int .i64 p1)⟩ :: ⟨_, true, .raw (.int .i64 ((p0 * (1000 : Int)).tdiv p1))⟩ :: ⟨_, true, .raw (.int .i64 x9)⟩ :: ⟨_, true, .raw (.int .i64 ((p0 * (1000 : Int)).tdiv p1))⟩ :: []) (tl := []) (by kernel_rfl) (by kernel_rfl) (by kernel_rfl) (by kernel_rfl) ?_ ?_
  ·exact
    Obls.p (fun R' w' hw hs hd => of_move ((hs 0 rfl).trans h0)) <|
    Obls.p (fun R' w' hw hs hd => of_move ((hs 1 rfl).trans h1)) <|
    Obls.p (fun R' w' hw hs hd => by have a0 : R' 14 = .int .i64 p0 := hd.g 0 rfl; have a1 : R' 15 = .int .i64 p1 := hd.g 1 rfl; exact of_mul a0 a1 e8) <|
    Obls.p (fun R' w' hw hs hd => by have a0 : R' 16 = .int .i64 (p0 * p1) := hd.g 0 rfl; exact of_call Tryz.call52 (M_impl_ceilDiv_ok (q10 rfl) (hA.fr hw.size) a0 rfl)) <|
    Obls.p (fun R' w' hw hs hd => of_move ((hs 0 rfl).trans h0)) <|
    Obls.p (fun R' w' hw hs hd => by have a0 : R' 18 = .int .i64 p0 := hd.g 0 rfl; exact of_mul a0 rfl e11) <|
    Obls.p (fun R' w' hw hs hd => of_move ((hs 1 rfl).trans h1)) <|
    Obls.p (fun R' w' hw hs hd => by have a0 : R' 19 = .int .i64 (p0 * (1000 : Int)) := hd.g 0 rfl; have a1 : R' 20 = .int .i64 p1 := hd.g 1 rfl; exact of_quo a0 a1 e12 e13) <|
    Obls.p (fun R' w' hw hs hd => by have a0 : R' 17 = .int .i64 x9 := hd.g 0 rfl; exact of_assign a0) <|
    Obls.p (fun R' w' hw hs hd => by have a0 : R' 21 = .int .i64 ((p0 * (1000 : Int)).tdiv p1) := hd.g 0 rfl; exact of_assign a0) <|
    Obls.nil
  intro R w hw hs hF'
  have h4 : R 4 = .int .i64 x9 := hF' 8 _ _ rfl rfl rfl
  have h5 : R 5 = .int .i64 ((p0 * (1000 : Int)).tdiv p1) := hF' 9 _ _ rfl rfl rfl
  replace hA := hA.fr hw.size
  replace hF := hF.trans hw
  clear hs hF' hw
  refine seqR_nil ?_
  refine HT.ret ?_
  obtain rfl := Option.some.inj hr
  exact ⟨.inr rfl, [R 4, R 5], ⟨rfl, ⟨rfl, trivial⟩⟩, ⟨_, _, rfl, h4, h5⟩, hF⟩
def M_impl_PrefixLength (fu : Nat) (p0 : Int) (p1 : Int) : Option Int :=
 cl true (M_impl_LengthBounds fu p0 p1) fun x1 =>
 bd ((decide (x1.1 < (0 : Int))) || (p0 == (0 : Int))) fun x3 =>
 bif x3 then (
  some (min x1.1 (0 : Int))
 ) else (
  ck (i64B (p0 - x1.1)) <|
  ck (i64B ((p0 - x1.1) + (1 : Int))) <|
  some ((p0 - x1.1) + (1 : Int))
 )
theorem M_impl_PrefixLength_ok {fu : Nat} {A : Av} {p0 : Int} {p1 : Int} {r : Int} (hr : M_impl_PrefixLength fu p0 p1 = some r) {w : World} {v0 : Value} {v1 : Value} (hA : AvOK A w) (h0 : v0 = .int .i64 p0) (h1 : v1 = .int .i64 p1) :
  Calls Tryz.prog 18 #[v0, v1] w fun e w' => ∃ v, e = .returned v ∧ (v = .int .i64 r ∧ Fr w w') := by
 unfold M_impl_PrefixLength at hr
 obtain ⟨w0, hw0⟩ : ∃ w0, w0 = w := ⟨_, rfl⟩
 have hF : Fr w0 w := hw0 ▸ Fr.refl _
 rw [show Fr w = Fr w0 from hw0 ▸ rfl]
 clear hw0
 refine calls_of_HT2 [.tmp 4] Tryz.func18 Tryz.ntmps18 (by decide) rfl rfl (Nat.le_of_ble_eq_true rfl) ?_
 intro R hR
 replace h0 : R 0 = .int .i64 p0 := (hR 0 _ rfl).trans h0
 replace h1 : R 1 = .int .i64 p1 := (hR 1 _ rfl).trans h1
 clear hR
 refine HT.seq ?_
 refine HT.text (l := ⟨_, true, .raw (.int .i64 (0 : Int))⟩ :: []) (tl := []) (by kernel_rfl) (by kernel_rfl) (by kernel_rfl) ?_ ?_
 ·exact
   Obls.p (fun R' w' hw hs hd => of_assign rfl) <|
   Obls.nil
 intro R w hw hs hF'
 replace h0 := (hs 0 rfl).trans h0
 replace h1 := (hs 1 rfl).trans h1
 replace hA := hA.fr hw.size
 replace hF := hF.trans hw
 clear hs hF' hw
 refine seqR_nil ?_
 refine HT.seq ?_
 obtain ⟨x1, q2, hr⟩ := cl_some hr
 refine HT.text (l := ⟨_, true, .raw (.int .i64 p0)⟩ :: ⟨_, true, .raw (.int .i64 p1)⟩ :: ⟨_, true, .tup2 (.raw (.int .i64 x1.1)) (.raw (.int .i64 x1.2))⟩ :: ⟨_, true, .tup2 (.raw (.int .i64 x1.1)) (.raw (.int .i64 x1.2))⟩ :: ⟨_, true, .raw (.int .i64 x1.1)⟩ :: ⟨_, true, .raw (.int .i64 x1.2)⟩ :: ⟨_, true, .raw (.int .i64 x1.1)⟩ :: ⟨_, true, .raw (.int .i64 x1.2)⟩ :: []) (tl := []) (by kernel_rfl) (by kernel_rfl) (by kernel_rfl) ?_ ?_
 ·exact
   Obls.p (fun R' w' hw hs hd => of_move ((hs 0 rfl).trans h0)) <|
   Obls.p (fun R' w' hw hs hd => of_move ((hs 1 rfl).trans h1)) <|
   Obls.p (fun R' w' hw hs hd => by have a0 : R' 8 = .int .i64 p0 := hd.g 0 rfl; have a1 : R' 9 = .int .i64 p1 := hd.g 1 rfl; exact of_call Tryz.call14 (M_impl_LengthBounds_ok (q2 rfl) (hA.fr hw.size) a0 a1)) <|
   Obls.p (fun R' w' hw hs hd => by have a0 : Fact.ok (.tup2 (.raw (.int .i64 x1.1)) (.raw (.int .i64 x1.2))) (R' 10) w' := hd.g 0 rfl; exact of_move a0) <|
   Obls.p (fun R' w' hw hs hd => by have a0 : Fact.ok (.tup2 (.raw (.int .i64 x1.1)) (.raw (.int .i64 x1.2))) (R' 7) w' := hd.g 0 rfl; exact of_extract2_0 a0) <|
   Obls.p (fun R' w' hw hs hd => by have a0 : Fact.ok (.tup2 (.raw (.int .i64 x1.1)) (.raw (.int .i64 x1.2))) (R' 7) w' := hd.g 0 rfl; exact of_extract2_1 a0) <|
   Obls.p (fun R' w' hw hs hd => by have a0 : R' 11 = .int .i64 x1.1 := hd.g 0 rfl; exact of_assign a0) <|
   Obls.p (fun R' w' hw hs hd => by have a0 : R' 12 = .int .i64 x1.2 := hd.g 0 rfl; exact of_assign a0) <|
   Obls.nil
 intro R w hw hs hF'
 replace h0 := (hs 0 rfl).trans h0
 have h5 : R 5 = .int .i64 x1.1 := hF' 6 _ _ rfl rfl rfl
 replace hA := hA.fr hw.size
 replace hF := hF.trans hw
 clear hs hF' hw
 refine seqR_nil ?_
 refine HT.seq ?_
 refine HT.seq ?_
 obtain ⟨x3, q4, hr⟩ := bd_some hr
 refine HT.text (l := ⟨_, true, .raw (.int .i64 x1.1)⟩ :: ⟨_, true, .raw (.bool (decide (x1.1 < (0 : Int))))⟩ :: ⟨_, true, .raw (.bool (decide (x1.1 < (0 : Int))))⟩ :: ⟨_, (true && ((decide (x1.1 < (0 : Int))) == false)), .raw (.int .i64 p0)⟩ :: ⟨_, (true && ((decide (x1.1 < (0 : Int))) == false)), .raw (.bool (p0 == (0 : Int)))⟩ :: ⟨_, true, .raw (.bool x3)⟩ :: []) (tl := []) (by kernel_rfl) (by kernel_rfl) (by kernel_rfl) ?_ ?_
 ·exact
   Obls.p (fun R' w' hw hs hd => of_move ((hs 5 rfl).trans h5)) <|
   Obls.p (fun R' w' hw hs hd => by have a0 : R' 13 = .int .i64 x1.1 := hd.g 0 rfl; exact of_lss a0 rfl) <|
   Obls.p (fun R' w' hw hs hd => by have a0 : R' 14 = .bool (decide (x1.1 < (0 : Int))) := hd.g 0 rfl; exact of_move a0) <|
   Obls.cons (Obl.grd 2 false _ _ _ rfl rfl rfl rfl rfl (by kernel_rfl) fun hg R' w' hw hs hd => by have a0 : R' 0 = .int .i64 p0 := (hs 0 rfl).trans h0; exact of_move a0) <|
   Obls.cons (Obl.grd 2 false _ _ _ rfl rfl rfl rfl rfl (by kernel_rfl) fun hg R' w' hw hs hd => by have a0 : R' 16 = .int .i64 p0 := hd 0 _ _ _ rfl rfl rfl rfl hg; exact of_eql a0 rfl) <|
   Obls.p (fun R' w' hw hs hd => by have a0 : R' 15 = .bool (decide (x1.1 < (0 : Int))) := hd.g 0 rfl; exact of_pick (decide (x1.1 < (0 : Int))) a0 (fun hc => by show _ = Value.bool x3; rw [q4, hc]; exact rfl) (fun hc => by have a2 : R' 17 = .bool (p0 == (0 : Int)) := hd 1 _ _ _ rfl rfl rfl rfl (g_and rfl (beq_of hc)); show _ = Value.bool x3; rw [q4, hc]; exact a2)) <|
   Obls.nil
 intro R w hw hs hF'
 replace h0 := (hs 0 rfl).trans h0
 replace h5 := (hs 5 rfl).trans h5
 have h18 : R 18 = .bool x3 := hF' 5 _ _ rfl rfl rfl
 replace hA := hA.fr hw.size
 replace hF := hF.trans hw
 clear hs hF' hw
 refine seqR_nil ?_
 refine HT.cond x3 h18 (fun c5 => ?_) (fun c5 => ?_)
 ·have hr := cnd_t c5 hr
  refine HT.seq ?_
  refine HT.text (l := ⟨_, true, .raw (.int .i64 x1.1)⟩ :: ⟨_, true, .raw (.int .i64 (min x1.1 (0 : Int)))⟩ :: ⟨_, true, .raw (.int .i64 (min x1.1 (0 : Int)))⟩ :: []) (tl := []) (by kernel_rfl) (by kernel_rfl) (by kernel_rfl) ?_ ?_
  ·exact
    Obls.p (fun R' w' hw hs hd => of_move ((hs 5 rfl).trans h5)) <|
    Obls.p (fun R' w' hw hs hd => by have a0 : R' 19 = .int .i64 x1.1 := hd.g 0 rfl; exact of_min2 a0 rfl) <|
    Obls.p (fun R' w' hw hs hd => by have a0 : R' 20 = .int .i64 (min x1.1 (0 : Int)) := hd.g 0 rfl; exact of_assign a0) <|
    Obls.nil
  intro R w hw hs hF'
  have h4 : R 4 = .int .i64 (min x1.1 (0 : Int)) := hF' 2 _ _ rfl rfl rfl
  replace hA := hA.fr hw.size
  replace hF := hF.trans hw
  clear hs hF' hw
  refine seqR_nil ?_
  refine HT.ret ?_
  obtain rfl := Option.some.inj hr
  exact ⟨.inr rfl, [R 4], ⟨rfl, trivial⟩, h4, hF⟩
 ·have hr := cnd_f c5 hr
  refine HT.skip ?_
  refine HT.seq ?_
  obtain ⟨e6, hr⟩ := ck_some hr
  obtain ⟨e7, hr⟩ := ck_some hr
  refine HT.text (l := ⟨_, true, .raw (.int .i64 p0)⟩ :: ⟨_, true, .raw (.int .i64 x1.1)⟩ :: ⟨_, true, .raw (.int .i64 (p0 - x1.1))⟩ :: ⟨_, true, .raw (.int .i64 ((p0 - x1.1) + (1 : Int)))⟩ :: ⟨_, true, .raw (.int .i64 ((p0 - x1.1) + (1 : Int)))⟩ :: []) (tl := []) (by kernel_rfl) (by kernel_rfl) (by kernel_rfl) ?_ ?_
  ·exact
    Obls.p (fun R' w' hw hs hd => of_move ((hs 0 rfl).trans h0)) <|
    Obls.p (fun R' w' hw hs hd => of_move ((hs 5 rfl).trans h5)) <|
    Obls.p (fun R' w' hw hs hd => by have a0 : R' 21 = .int .i64 p0 := hd.g 0 rfl; have a1 : R' 22 = .int .i64 x1.1 := hd.g 1 rfl; exact of_sub a0 a1 e6) <|
    Obls.p (fun R' w' hw hs hd => by have a0 : R' 23 = .int .i64 (p0 - x1.1) := hd.g 0 rfl; exact of_add a0 rfl e7) <|
    Obls.p (fun R' w' hw hs hd => by have a0 : R' 24 = .int .i64 ((p0 - x1.1) + (1 : Int)) := hd.g 0 rfl; exact of_assign a0) <|
    Obls.nil
  intro R w hw hs hF'
  have h4 : R 4 = .int .i64 ((p0 - x1.1) + (1 : Int)) := hF' 4 _ _ rfl rfl rfl
  replace hA := hA.fr hw.size
  replace hF := hF.trans hw
  clear hs hF' hw
  refine seqR_nil ?_
  refine HT.ret ?_
  obtain rfl := Option.some.inj hr
  exact ⟨.inr rfl, [R 4], ⟨rfl, trivial⟩, h4, hF⟩
def M_impl_isSmall (fu : Nat) (p0 : Int) : Option Bool :=
 bd ((decide ((97 : Int) ≤ p0)) && (decide (p0 ≤ (122 : Int)))) fun x1 =>
 some x1
theorem M_impl_isSmall_ok {fu : Nat} {A : Av} {p0 : Int} {r : Bool} (hr : M_impl_isSmall fu p0 = some r) {w : World} {v0 : Value} (hA : AvOK A w) (h0 : v0 = .int .u8 p0) :
  Calls Tryz.prog 102 #[v0] w fun e w' => ∃ v, e = .returned v ∧ (v = .bool r ∧ Fr w w') := by
 unfold M_impl_isSmall at hr
 obtain ⟨w0, hw0⟩ : ∃ w0, w0 = w := ⟨_, rfl⟩
 have hF : Fr w0 w := hw0 ▸ Fr.refl _
 rw [show Fr w = Fr w0 from hw0 ▸ rfl]
 clear hw0
 refine calls_of_HT2 [.tmp 2] Tryz.func102 Tryz.ntmps102 (by decide) rfl rfl (Nat.le_of_ble_eq_true rfl) ?_
 intro R hR
 replace h0 : R 0 = .int .u8 p0 := (hR 0 _ rfl).trans h0
 clear hR
 refine HT.seq ?_
 refine HT.text (l := ⟨_, true, .raw (.bool false)⟩ :: []) (tl := []) (by kernel_rfl) (by kernel_rfl) (by kernel_rfl) ?_ ?_
 ·exact
   Obls.p (fun R' w' hw hs hd => of_assign rfl) <|
   Obls.nil
 intro R w hw hs hF'
 replace h0 := (hs 0 rfl).trans h0
 replace hA := hA.fr hw.size
 replace hF := hF.trans hw
 clear hs hF' hw
 refine seqR_nil ?_
 refine HT.seq ?_
 obtain ⟨x1, q2, hr⟩ := bd_some hr
 refine HT.text (l := ⟨_, true, .raw (.int .u8 p0)⟩ :: ⟨_, true, .raw (.bool (decide ((97 : Int) ≤ p0)))⟩ :: ⟨_, true, .raw (.bool (decide ((97 : Int) ≤ p0)))⟩ :: ⟨_, (true && ((decide ((97 : Int) ≤ p0)) == true)), .raw (.int .u8 p0)⟩ :: ⟨_, (true && ((decide ((97 : Int) ≤ p0)) == true)), .raw (.bool (decide (p0 ≤ (122 : Int))))⟩ :: ⟨_, true, .raw (.bool x1)⟩ :: ⟨_, true, .raw (.bool x1)⟩ :: []) (tl := []) (by kernel_rfl) (by kernel_rfl) (by kernel_rfl) ?_ ?_
 ·exact
   Obls.p (fun R' w' hw hs hd => of_move ((hs 0 rfl).trans h0)) <|
   Obls.p (fun R' w' hw hs hd => by have a0 : R' 3 = .int .u8 p0 := hd.g 0 rfl; exact of_geq a0 rfl) <|
   Obls.p (fun R' w' hw hs hd => by have a0 : R' 4 = .bool (decide ((97 : Int) ≤ p0)) := hd.g 0 rfl; exact of_move a0) <|
   Obls.cons (Obl.grd 2 true _ _ _ rfl rfl rfl rfl rfl (by kernel_rfl) fun hg R' w' hw hs hd => by have a0 : R' 0 = .int .u8 p0 := (hs 0 rfl).trans h0; exact of_move a0) <|
   Obls.cons (Obl.grd 2 true _ _ _ rfl rfl rfl rfl rfl (by kernel_rfl) fun hg R' w' hw hs hd => by have a0 : R' 6 = .int .u8 p0 := hd 0 _ _ _ rfl rfl rfl rfl hg; exact of_leq a0 rfl) <|
   Obls.p (fun R' w' hw hs hd => by have a0 : R' 5 = .bool (decide ((97 : Int) ≤ p0)) := hd.g 0 rfl; exact of_pick (decide ((97 : Int) ≤ p0)) a0 (fun hc => by have a1 : R' 7 = .bool (decide (p0 ≤ (122 : Int))) := hd 1 _ _ _ rfl rfl rfl rfl (g_and rfl (beq_of hc)); show _ = Value.bool x1; rw [q2, hc]; exact a1) (fun hc => by show _ = Value.bool x1; rw [q2, hc]; exact rfl)) <|
   Obls.p (fun R' w' hw hs hd => by have a0 : R' 8 = .bool x1 := hd.g 0 rfl; exact of_assign a0) <|
   Obls.nil
 intro R w hw hs hF'
 have h2 : R 2 = .bool x1 := hF' 6 _ _ rfl rfl rfl
 replace hA := hA.fr hw.size
 replace hF := hF.trans hw
 clear hs hF' hw
 refine seqR_nil ?_
 refine HT.ret ?_
 obtain rfl := Option.some.inj hr
 exact ⟨.inr rfl, [R 2], ⟨rfl, trivial⟩, h2, hF⟩
def M_impl_isDigit (fu : Nat) (p0 : Int) : Option Bool :=
 bd ((decide ((48 : Int) ≤ p0)) && (decide (p0 ≤ (57 : Int)))) fun x1 =>
 some x1
theorem M_impl_isDigit_ok {fu : Nat} {A : Av} {p0 : Int} {r : Bool} (hr : M_impl_isDigit fu p0 = some r) {w : World} {v0 : Value} (hA : AvOK A w) (h0 : v0 = .int .u8 p0) :
  Calls Tryz.prog 103 #[v0] w fun e w' => ∃ v, e = .returned v ∧ (v = .bool r ∧ Fr w w') := by
 unfold M_impl_isDigit at hr
 obtain ⟨w0, hw0⟩ : ∃ w0, w0 = w := ⟨_, rfl⟩
 have hF : Fr w0 w := hw0 ▸ Fr.refl _
 rw [show Fr w = Fr w0 from hw0 ▸ rfl]
 clear hw0
 refine calls_of_HT2 [.tmp 2] Tryz.func103 Tryz.ntmps103 (by decide) rfl rfl (Nat.le_of_ble_eq_true rfl) ?_
 intro R hR
 replace h0 : R 0 = .int .u8 p0 := (hR 0 _ rfl).trans h0
 clear hR
 refine HT.seq ?_
 refine HT.text (l := ⟨_, true, .raw (.bool false)⟩ :: []) (tl := []) (by kernel_rfl) (by kernel_rfl) (by kernel_rfl) ?_ ?_
 ·exact
   Obls.p (fun R' w' hw hs hd => of_assign rfl) <|
   Obls.nil
 intro R w hw hs hF'
 replace h0 := (hs 0 rfl).trans h0
 replace hA := hA.fr hw.size
 replace hF := hF.trans hw
 clear hs hF' hw
 refine seqR_nil ?_
 refine HT.seq ?_
 obtain ⟨x1, q2, hr⟩ := bd_some hr
 refine HT.text (l := ⟨_, true, .raw (.int .u8 p0)⟩ :: ⟨_, true, .raw (.bool (decide ((48 : Int) ≤ p0)))⟩ :: ⟨_, true, .raw (.bool (decide ((48 : Int) ≤ p0)))⟩ :: ⟨_, (true && ((decide ((48 : Int) ≤ p0)) == true)), .raw (.int .u8 p0)⟩ :: ⟨_, (true && ((decide ((48 : Int) ≤ p0)) == true)), .raw (.bool (decide (p0 ≤ (57 : Int))))⟩ :: ⟨_, true, .raw (.bool x1)⟩ :: ⟨_, true, .raw (.bool x1)⟩ :: []) (tl := []) (by kernel_rfl) (by kernel_rfl) (by kernel_rfl) ?_ ?_
 ·exact
   Obls.p (fun R' w' hw hs hd => of_move ((hs 0 rfl).trans h0)) <|
   Obls.p (fun R' w' hw hs hd => by have a0 : R' 3 = .int .u8 p0 := hd.g 0 rfl; exact of_geq a0 rfl) <|
   Obls.p (fun R' w' hw hs hd => by have a0 : R' 4 = .bool (decide ((48 : Int) ≤ p0)) := hd.g 0 rfl; exact of_move a0) <|
   Obls.cons (Obl.grd 2 true _ _ _ rfl rfl rfl rfl rfl (by kernel_rfl) fun hg R' w' hw hs hd => by have a0 : R' 0 = .int .u8 p0 := (hs 0 rfl).trans h0; exact of_move a0) <|
   Obls.cons (Obl.grd 2 true _ _ _ rfl rfl rfl rfl rfl (by kernel_rfl) fun hg R' w' hw hs hd => by have a0 : R' 6 = .int .u8 p0 := hd 0 _ _ _ rfl rfl rfl rfl hg; exact of_leq a0 rfl) <|
   Obls.p (fun R' w' hw hs hd => by have a0 : R' 5 = .bool (decide ((48 : Int) ≤ p0)) := hd.g 0 rfl; exact of_pick (decide ((48 : Int) ≤ p0)) a0 (fun hc => by have a1 : R' 7 = .bool (decide (p0 ≤ (57 : Int))) := hd 1 _ _ _ rfl rfl rfl rfl (g_and rfl (beq_of hc)); show _ = Value.bool x1; rw [q2, hc]; exact a1) (fun hc => by show _ = Value.bool x1; rw [q2, hc]; exact rfl)) <|
   Obls.p (fun R' w' hw hs hd => by have a0 : R' 8 = .bool x1 := hd.g 0 rfl; exact of_assign a0) <|
   Obls.nil
 intro R w hw hs hF'
 have h2 : R 2 = .bool x1 := hF' 6 _ _ rfl rfl rfl
 replace hA := hA.fr hw.size
 replace hF := hF.trans hw
 clear hs hF' hw
 refine seqR_nil ?_
 refine HT.ret ?_
 obtain rfl := Option.some.inj hr
 exact ⟨.inr rfl, [R 2], ⟨rfl, trivial⟩, h2, hF⟩
def M_impl_isAlphanumeric_L0 (fu : Nat) (p0 : List UInt8) : Nat → Int → Option (Ex Bool Unit)
 | 0, _ => none
 | k + 1, y4 =>
  bif (decide (y4 < (p0.length : Int))) then (
   ck (inR y4 p0.length) <|
   cl true (M_impl_isSmall fu (bAt p0 y4)) fun x7 =>
   ck (!(true && ((!x7) == true)) || inR y4 p0.length) <|
   cl (true && ((!x7) == true)) (M_impl_isDigit fu (bAt p0 y4)) fun x10 =>
   bd ((!x7) && (!x10)) fun x12 =>
   bif x12 then (
    some (Ex.ret false)
   ) else (
    ck (i64B (y4 + (1 : Int))) <|
    M_impl_isAlphanumeric_L0 fu p0 k (y4 + (1 : Int))
   )
  ) else (
   some (Ex.go ())
  )
def M_impl_isAlphanumeric (fu : Nat) (p0 : List UInt8) : Option Bool :=
 cl true (M_impl_isAlphanumeric_L0 fu p0 fu (0 : Int)) fun rl1 =>
 exM rl1 (fun r => some r) fun s3 =>
 some true
theorem M_impl_isAlphanumeric_ok {fu : Nat} {A : Av} {p0 : List UInt8} {r : Bool} (hr : M_impl_isAlphanumeric fu p0 = some r) {w : World} {v0 : Value} (hA : AvOK A w) (h0 : Rep eStr A w v0 p0) :
  Calls Tryz.prog 80 #[v0] w fun e w' => ∃ v, e = .returned v ∧ (v = .bool r ∧ Fr w w') := by
 unfold M_impl_isAlphanumeric at hr
 obtain ⟨w0, hw0⟩ : ∃ w0, w0 = w := ⟨_, rfl⟩
 have hF : Fr w0 w := hw0 ▸ Fr.refl _
 rw [show Fr w = Fr w0 from hw0 ▸ rfl]
 clear hw0
 refine calls_of_HT2 [.tmp 2] Tryz.func80 Tryz.ntmps80 (by decide) rfl rfl (Nat.le_of_ble_eq_true rfl) ?_
 intro R hR
 have f_v0 := h0
 replace h0 : R 0 = v0 := hR 0 _ rfl
 clear hR
 refine HT.seq ?_
 refine HT.text (l := ⟨_, true, .raw (.bool false)⟩ :: []) (tl := []) (by kernel_rfl) (by kernel_rfl) (by kernel_rfl) ?_ ?_
 ·exact
   Obls.p (fun R' w' hw hs hd => of_assign rfl) <|
   Obls.nil
 intro R w hw hs hF'
 replace h0 := (hs 0 rfl).trans h0
 replace f_v0 := f_v0.fr hw
 replace hA := hA.fr hw.size
 replace hF := hF.trans hw
 clear hs hF' hw
 refine seqR_nil ?_
 refine HT.seq ?_
 refine HT.seq ?_
 refine HT.text (l := ⟨_, true, .raw v0⟩ :: ⟨_, true, .raw (.int .i64 (p0.length : Int))⟩ :: ⟨_, true, .raw (.int .i64 (0 : Int))⟩ :: []) (tl := []) (by kernel_rfl) (by kernel_rfl) (by kernel_rfl) ?_ ?_
 ·exact
   Obls.p (fun R' w' hw hs hd => of_move ((hs 0 rfl).trans h0)) <|
   Obls.p (fun R' w' hw hs hd => by have a0 : R' 4 = v0 := hd.g 0 rfl; have ra0 := (f_v0.fr hw).eq a0; exact of_len_str ra0 Tryz.underlying9) <|
   Obls.p (fun R' w' hw hs hd => of_move rfl) <|
   Obls.nil
 intro R w hw hs hF'
 replace h0 := (hs 0 rfl).trans h0
 have h5 : R 5 = .int .i64 (p0.length : Int) := hF' 1 _ _ rfl rfl rfl
 have h6 : R 6 = .int .i64 (0 : Int) := hF' 2 _ _ rfl rfl rfl
 replace f_v0 := f_v0.fr hw
 replace hA := hA.fr hw.size
 replace hF := hF.trans hw
 clear hs hF' hw
 refine seqR_nil ?_
 obtain ⟨rl1, q2, hr⟩ := cl_some hr
 replace q2 := q2 rfl
 refine HT.cut0 (fun R w => ∃ (s3 : Unit), rl1 = Ex.go s3 ∧ AvOK A w ∧ Fr w0 w) ?_ ?_
 ·refine HT.block ?_
  refine HT.loop (fun k R w => ∃ (y4 : Int), M_impl_isAlphanumeric_L0 fu p0 k y4 = some rl1 ∧ AvOK A w ∧ Fr w0 w ∧ R 0 = v0 ∧ R 5 = .int .i64 (p0.length : Int) ∧ R 6 = .int .i64 y4 ∧ Rep eStr A w v0 p0) fu ⟨_, q2, hA, hF, h0, h5, h6, f_v0⟩ ?_
  have hr0 := hr; clear hr q2
  rintro k R w ⟨y4, hr, hA, hF, h0, h5, h6, f_v0⟩
  rcases k with _ | k
  ·cases (show none = some _ from hr)
  rw [M_impl_isAlphanumeric_L0] at hr
  refine HT.seq ?_
  refine HT.text (l := ⟨_, true, .raw (.bool (decide (y4 < (p0.length : Int))))⟩ :: []) (tl := []) (by kernel_rfl) (by kernel_rfl) (by kernel_rfl) ?_ ?_
  ·exact
    Obls.p (fun R' w' hw hs hd => of_lss ((hs 6 rfl).trans h6) ((hs 5 rfl).trans h5)) <|
    Obls.nil
  intro R w hw hs hF'
  replace h0 := (hs 0 rfl).trans h0
  replace h5 := (hs 5 rfl).trans h5
  replace h6 := (hs 6 rfl).trans h6
  have h7 : R 7 = .bool (decide (y4 < (p0.length : Int))) := hF' 0 _ _ rfl rfl rfl
  replace f_v0 := f_v0.fr hw
  replace hA := hA.fr hw.size
  replace hF := hF.trans hw
  clear hs hF' hw
  refine seqR_nil ?_
  refine HT.seq ?_
  refine HT.cond (decide (y4 < (p0.length : Int))) h7 (fun c5 => ?_) (fun c5 => ?_)
  ·have hr := cnd_t c5 hr
   refine HT.skip ?_
   refine HT.seq ?_
   refine HT.block ?_
   refine HT.seq ?_
   refine HT.text (l := ⟨_, true, .raw (.int .i64 y4)⟩ :: ⟨_, true, .raw (.int .i64 y4)⟩ :: []) (tl := []) (by kernel_rfl) (by kernel_rfl) (by kernel_rfl) ?_ ?_
   ·exact
     Obls.p (fun R' w' hw hs hd => of_move ((hs 6 rfl).trans h6)) <|
     Obls.p (fun R' w' hw hs hd => by have a0 : R' 8 = .int .i64 y4 := hd.g 0 rfl; exact of_assign a0) <|
     Obls.nil
   intro R w hw hs hF'
   replace h0 := (hs 0 rfl).trans h0
   replace h5 := (hs 5 rfl).trans h5
   replace h6 := (hs 6 rfl).trans h6
   have h3 : R 3 = .int .i64 y4 := hF' 1 _ _ rfl rfl rfl
   replace f_v0 := f_v0.fr hw
   replace hA := hA.fr hw.size
   replace hF := hF.trans hw
   clear hs hF' hw
   refine seqR_nil ?_
   refine HT.seq ?_
   obtain ⟨e6, hr⟩ := ck_some hr
   obtain ⟨x7, q8, hr⟩ := cl_some hr
   obtain ⟨e9, hr⟩ := ck_some hr
   obtain ⟨x10, q11, hr⟩ := cl_some hr
   obtain ⟨x12, q13, hr⟩ := bd_some hr
   refine HT.text (l := ⟨_, true, .raw v0⟩ :: ⟨_, true, .raw (.int .i64 y4)⟩ :: ⟨_, true, .raw (.int .u8 (bAt p0 y4))⟩ :: ⟨_, true, .raw (.bool x7)⟩ :: ⟨_, true, .raw (.bool (!x7))⟩ :: ⟨_, true, .raw (.bool (!x7))⟩ :: ⟨_, (true && ((!x7) == true)), .raw v0⟩ :: ⟨_, (true && ((!x7) == true)), .raw (.int .i64 y4)⟩ :: ⟨_, (true && ((!x7) == true)), .raw (.int .u8 (bAt p0 y4))⟩ :: ⟨_, (true && ((!x7) == true)), .raw (.bool x10)⟩ :: ⟨_, (true && ((!x7) == true)), .raw (.bool (!x10))⟩ :: ⟨_, true, .raw (.bool x12)⟩ :: []) (tl := []) (by kernel_rfl) (by kernel_rfl) (by kernel_rfl) ?_ ?_
   ·exact
     Obls.p (fun R' w' hw hs hd => of_move ((hs 0 rfl).trans h0)) <|
     Obls.p (fun R' w' hw hs hd => of_move ((hs 3 rfl).trans h3)) <|
     Obls.p (fun R' w' hw hs hd => by have a0 : R' 9 = v0 := hd.g 0 rfl; have ra0 := (f_v0.fr hw).eq a0; have a1 : R' 10 = .int .i64 y4 := hd.g 1 rfl; exact of_strIndex ra0 a1 Tryz.underlying9 e6) <|
     Obls.p (fun R' w' hw hs hd => by have a0 : R' 11 = .int .u8 (bAt p0 y4) := hd.g 0 rfl; exact of_call Tryz.call102 (M_impl_isSmall_ok (q8 rfl) (hA.fr hw.size) a0)) <|
     Obls.p (fun R' w' hw hs hd => by have a0 : R' 12 = .bool x7 := hd.g 0 rfl; exact of_not a0) <|
     Obls.p (fun R' w' hw hs hd => by have a0 : R' 13 = .bool (!x7) := hd.g 0 rfl; exact of_move a0) <|
     Obls.cons (Obl.grd 5 true _ _ _ rfl rfl rfl rfl rfl (by kernel_rfl) fun hg R' w' hw hs hd => by have a0 : R' 0 = v0 := (hs 0 rfl).trans h0; exact of_move a0) <|
     Obls.cons (Obl.grd 5 true _ _ _ rfl rfl rfl rfl rfl (by kernel_rfl) fun hg R' w' hw hs hd => by have a0 : R' 3 = .int .i64 y4 := (hs 3 rfl).trans h3; exact of_move a0) <|
     Obls.cons (Obl.grd 5 true _ _ _ rfl rfl rfl rfl rfl (by kernel_rfl) fun hg R' w' hw hs hd => by have a0 : R' 15 = v0 := hd 0 _ _ _ rfl rfl rfl rfl hg; have ra0 := (f_v0.fr hw).eq a0; have a1 : R' 16 = .int .i64 y4 := hd 1 _ _ _ rfl rfl rfl rfl hg; exact of_strIndex ra0 a1 Tryz.underlying9 (gd e9 hg)) <|
     Obls.cons (Obl.grd 5 true _ _ _ rfl rfl rfl rfl rfl (by kernel_rfl) fun hg R' w' hw hs hd => by have a0 : R' 17 = .int .u8 (bAt p0 y4) := hd 0 _ _ _ rfl rfl rfl rfl hg; exact of_call Tryz.call103 (M_impl_isDigit_ok (q11 hg) (hA.fr hw.size) a0)) <|
     Obls.cons (Obl.grd 5 true _ _ _ rfl rfl rfl rfl rfl (by kernel_rfl) fun hg R' w' hw hs hd => by have a0 : R' 18 = .bool x10 := hd 0 _ _ _ rfl rfl rfl rfl hg; exact of_not a0) <|
     Obls.p (fun R' w' hw hs hd => by have a0 : R' 14 = .bool (!x7) := hd.g 0 rfl; exact of_pick (!x7) a0 (fun hc => by have a1 : R' 19 = .bool (!x10) := hd 1 _ _ _ rfl rfl rfl rfl (g_and rfl (beq_of hc)); show _ = Value.bool x12; rw [q13, hc]; exact a1) (fun hc => by show _ = Value.bool x12; rw [q13, hc]; exact rfl)) <|
     Obls.nil
   intro R w hw hs hF'
   replace h0 := (hs 0 rfl).trans h0
   replace h5 := (hs 5 rfl).trans h5
   replace h6 := (hs 6 rfl).trans h6
   have h20 : R 20 = .bool x12 := hF' 11 _ _ rfl rfl rfl
   replace f_v0 := f_v0.fr hw
   replace hA := hA.fr hw.size
   replace hF := hF.trans hw
   clear hs hF' hw
   refine seqR_nil ?_
   refine HT.cond x12 h20 (fun c14 => ?_) (fun c14 => ?_)
   ·have hr := cnd_t c14 hr
    refine HT.seq ?_
    refine HT.text (l := ⟨_, true, .raw (.bool false)⟩ :: []) (tl := []) (by kernel_rfl) (by kernel_rfl) (by kernel_rfl) ?_ ?_
    ·exact
      Obls.p (fun R' w' hw hs hd => of_assign rfl) <|
      Obls.nil
    intro R w hw hs hF'
    have h2 : R 2 = .bool false := hF' 0 _ _ rfl rfl rfl
    replace hA := hA.fr hw.size
    replace hF := hF.trans hw
    clear hs hF' hw
    refine seqR_nil ?_
    refine HT.ret ?_
    obtain rfl := Option.some.inj hr
    have hr := hr0
    replace hr : some _ = some _ := hr
    obtain rfl := Option.some.inj hr
    exact ⟨.inr rfl, [R 2], ⟨rfl, trivial⟩, h2, hF⟩
   ·have hr := cnd_f c14 hr
    refine HT.skip ?_
    obtain ⟨e15, hr⟩ := ck_some hr
    refine HT.text (l := ⟨_, true, .raw (.int .i64 (y4 + (1 : Int)))⟩ :: ⟨_, true, .raw (.int .i64 (y4 + (1 : Int)))⟩ :: []) (tl := []) (by kernel_rfl) (by kernel_rfl) (by kernel_rfl) ?_ ?_
    ·exact
      Obls.p (fun R' w' hw hs hd => of_add ((hs 6 rfl).trans h6) rfl e15) <|
      Obls.p (fun R' w' hw hs hd => by have a0 : R' 21 = .int .i64 (y4 + (1 : Int)) := hd.g 0 rfl; exact of_move a0) <|
      Obls.nil
    intro R w hw hs hF'
    replace h0 := (hs 0 rfl).trans h0
    replace h5 := (hs 5 rfl).trans h5
    have h6 : R 6 = .int .i64 (y4 + (1 : Int)) := hF' 1 _ _ rfl rfl rfl
    replace f_v0 := f_v0.fr hw
    replace hA := hA.fr hw.size
    replace hF := hF.trans hw
    clear hs hF' hw
    refine seqR_nil ?_
    exact Exists.intro k (And.intro (Nat.lt_succ_self k) ⟨_, hr, hA, hF, h0, h5, h6, f_v0⟩)
  ·have hr := cnd_f c5 hr
   refine HT.exit ?_
   obtain rfl := Option.some.inj hr
   exact Exists.intro _ ⟨rfl, hA, hF⟩
 rintro R w ⟨s3, rfl, hA, hF⟩
 have hr := exM_go hr
 refine HT.seq ?_
 refine HT.text (l := ⟨_, true, .raw (.bool true)⟩ :: []) (tl := []) (by kernel_rfl) (by kernel_rfl) (by kernel_rfl) ?_ ?_
 ·exact
   Obls.p (fun R' w' hw hs hd => of_assign rfl) <|
   Obls.nil
 intro R w hw hs hF'
 have h2 : R 2 = .bool true := hF' 0 _ _ rfl rfl rfl
 replace hA := hA.fr hw.size
 replace hF := hF.trans hw
 clear hs hF' hw
 refine seqR_nil ?_
 refine HT.ret ?_
 obtain rfl := Option.some.inj hr
 exact ⟨.inr rfl, [R 2], ⟨rfl, trivial⟩, h2, hF⟩
def M_impl_IsTokenSet_L0 (fu : Nat) (p0 : List (List UInt8)) : Nat → Int → Option (Ex Bool Unit)
 | 0, _ => none
 | k + 1, y4 =>
  bif (decide (y4 < (p0.length : Int))) then (
   ck (inR y4 p0.length) <|
   cl (true && (((gtD p0 y4) == ([] : List UInt8)) == false)) (M_impl_isAlphanumeric fu (gtD p0 y4)) fun x8 =>
   bd (((gtD p0 y4) == ([] : List UInt8)) || (!x8)) fun x10 =>
   ck (!((true && (x10 == false)) && ((decide ((0 : Int) < y4)) == true)) || i64B (y4 - (1 : Int))) <|
   ck (!((true && (x10 == false)) && ((decide ((0 : Int) < y4)) == true)) || inR (y4 - (1 : Int)) p0.length) <|
   bd ((decide ((0 : Int) < y4)) && (!(bLt (gtD p0 (y4 - (1 : Int))) (gtD p0 y4)))) fun x14 =>
   bd (x10 || x14) fun x16 =>
   bif x16 then (
    some (Ex.ret false)
   ) else (
    ck (i64B (y4 + (1 : Int))) <|
    M_impl_IsTokenSet_L0 fu p0 k (y4 + (1 : Int))
   )
  ) else (
   some (Ex.go ())
  )
def M_impl_IsTokenSet (fu : Nat) (p0 : List (List UInt8)) : Option Bool :=
 cl true (M_impl_IsTokenSet_L0 fu p0 fu (0 : Int)) fun rl1 =>
 exM rl1 (fun r => some r) fun s3 =>
 some true
theorem M_impl_IsTokenSet_ok {fu : Nat} {A : Av} {p0 : List (List UInt8)} {r : Bool} (hr : M_impl_IsTokenSet fu p0 = some r) {w : World} {v0 : Value} (hA : AvOK A w) (h0 : Rep (eSl eStr) A w v0 p0) :
  Calls Tryz.prog 41 #[v0] w fun e w' => ∃ v, e = .returned v ∧ (v = .bool r ∧ Fr w w') := by
 unfold M_impl_IsTokenSet at hr
 obtain ⟨w0, hw0⟩ : ∃ w0, w0 = w := ⟨_, rfl⟩
 have hF : Fr w0 w := hw0 ▸ Fr.refl _
 rw [show Fr w = Fr w0 from hw0 ▸ rfl]
 clear hw0
 refine calls_of_HT2 [.tmp 2] Tryz.func41 Tryz.ntmps41 (by decide) rfl rfl (Nat.le_of_ble_eq_true rfl) ?_
 intro R hR
 have f_v0 := h0
 replace h0 : R 0 = v0 := hR 0 _ rfl
 clear hR
 refine HT.seq ?_
 refine HT.text (l := ⟨_, true, .raw (.bool false)⟩ :: []) (tl := []) (by kernel_rfl) (by kernel_rfl) (by kernel_rfl) ?_ ?_
 ·exact
   Obls.p (fun R' w' hw hs hd => of_assign rfl) <|
   Obls.nil
 intro R w hw hs hF'
 replace h0 := (hs 0 rfl).trans h0
 replace f_v0 := f_v0.fr hw
 replace hA := hA.fr hw.size
 replace hF := hF.trans hw
 clear hs hF' hw
 refine seqR_nil ?_
 refine HT.seq ?_
 refine HT.seq ?_
 refine HT.text (l := ⟨_, true, .raw v0⟩ :: ⟨_, true, .raw (.int .i64 (p0.length : Int))⟩ :: ⟨_, true, .raw (.int .i64 (0 : Int))⟩ :: []) (tl := []) (by kernel_rfl) (by kernel_rfl) (by kernel_rfl) ?_ ?_
 ·exact
   Obls.p (fun R' w' hw hs hd => of_move ((hs 0 rfl).trans h0)) <|
   Obls.p (fun R' w' hw hs hd => by have a0 : R' 5 = v0 := hd.g 0 rfl; have ra0 := (f_v0.fr hw).eq a0; exact of_len_sl (aT := #[]) ra0 Tryz.underlying25) <|
   Obls.p (fun R' w' hw hs hd => of_move rfl) <|
   Obls.nil
 intro R w hw hs hF'
 replace h0 := (hs 0 rfl).trans h0
 have h5 : R 5 = v0 := hF' 0 _ _ rfl rfl rfl
 have h6 : R 6 = .int .i64 (p0.length : Int) := hF' 1 _ _ rfl rfl rfl
 have h7 : R 7 = .int .i64 (0 : Int) := hF' 2 _ _ rfl rfl rfl
 replace f_v0 := f_v0.fr hw
 replace hA := hA.fr hw.size
 replace hF := hF.trans hw
 clear hs hF' hw
 refine seqR_nil ?_
 obtain ⟨rl1, q2, hr⟩ := cl_some hr
 replace q2 := q2 rfl
 refine HT.cut0 (fun R w => ∃ (s3 : Unit), rl1 = Ex.go s3 ∧ AvOK A w ∧ Fr w0 w) ?_ ?_
 ·refine HT.block ?_
  refine HT.loop (fun k R w => ∃ (y4 : Int), M_impl_IsTokenSet_L0 fu p0 k y4 = some rl1 ∧ AvOK A w ∧ Fr w0 w ∧ R 0 = v0 ∧ R 5 = v0 ∧ R 6 = .int .i64 (p0.length : Int) ∧ R 7 = .int .i64 y4 ∧ Rep (eSl eStr) A w v0 p0) fu ⟨_, q2, hA, hF, h0, h5, h6, h7, f_v0⟩ ?_
  have hr0 := hr; clear hr q2
  rintro k R w ⟨y4, hr, hA, hF, h0, h5, h6, h7, f_v0⟩
  rcases k with _ | k
  ·cases (show none = some _ from hr)
  rw [M_impl_IsTokenSet_L0] at hr
  refine HT.seq ?_
  refine HT.text (l := ⟨_, true, .raw (.bool (decide (y4 < (p0.length : Int))))⟩ :: []) (tl := []) (by kernel_rfl) (by kernel_rfl) (by kernel_rfl) ?_ ?_
  ·exact
    Obls.p (fun R' w' hw hs hd => of_lss ((hs 7 rfl).trans h7) ((hs 6 rfl).trans h6)) <|
    Obls.nil
  intro R w hw hs hF'
  replace h0 := (hs 0 rfl).trans h0
  replace h5 := (hs 5 rfl).trans h5
  replace h6 := (hs 6 rfl).trans h6
  replace h7 := (hs 7 rfl).trans h7
  have h8 : R 8 = .bool (decide (y4 < (p0.length : Int))) := hF' 0 _ _ rfl rfl rfl
  replace f_v0 := f_v0.fr hw
  replace hA := hA.fr hw.size
  replace hF := hF.trans hw
  clear hs hF' hw
  refine seqR_nil ?_
  refine HT.seq ?_
  refine HT.cond (decide (y4 < (p0.length : Int))) h8 (fun c5 => ?_) (fun c5 => ?_)
  ·have hr := cnd_t c5 hr
   refine HT.skip ?_
   refine HT.seq ?_
   refine HT.block ?_
   refine HT.seq ?_
   obtain ⟨e6, hr⟩ := ck_some hr
   refine HT.text (l := ⟨_, true, .raw (.int .i64 y4)⟩ :: ⟨_, true, .qtr eStr A (gtD p0 y4)⟩ :: ⟨_, true, .rep eStr A (gtD p0 y4)⟩ :: ⟨_, true, .raw (.int .i64 y4)⟩ :: ⟨_, true, .rep eStr A (gtD p0 y4)⟩ :: []) (tl := []) (by kernel_rfl) (by kernel_rfl) (by kernel_rfl) ?_ ?_
   ·exact
     Obls.p (fun R' w' hw hs hd => of_move ((hs 7 rfl).trans h7)) <|
     Obls.p (fun R' w' hw hs hd => by have ra0 := (f_v0.fr hw).eq ((hs 5 rfl).trans h5); exact of_indexAddr ra0 ((hs 7 rfl).trans h7) Tryz.underlying25 Tryz.sizeOf9 e6) <|
     Obls.p (fun R' w' hw hs hd => by have a0 : QRep eStr A w' (R' 10) (gtD p0 y4) := hd.g 0 rfl; exact (of_load a0.ptr Tryz.isAgg9 Tryz.sizeOf9)) <|
     Obls.p (fun R' w' hw hs hd => by have a0 : R' 9 = .int .i64 y4 := hd.g 0 rfl; exact of_assign a0) <|
     Obls.p (fun R' w' hw hs hd => by have a0 : Rep eStr A w' (R' 11) (gtD p0 y4) := hd.g 0 rfl; exact of_assign a0) <|
     Obls.nil
   intro R w hw hs hF'
   replace h0 := (hs 0 rfl).trans h0
   replace h5 := (hs 5 rfl).trans h5
   replace h6 := (hs 6 rfl).trans h6
   replace h7 := (hs 7 rfl).trans h7
   have h3 : R 3 = .int .i64 y4 := hF' 3 _ _ rfl rfl rfl
   obtain ⟨u7, h4, f_u7⟩ : ∃ u, R 4 = u ∧ Rep eStr A w u (gtD p0 y4) := ⟨_, rfl, hF' 4 _ _ rfl rfl rfl⟩
   replace f_v0 := f_v0.fr hw
   replace hA := hA.fr hw.size
   replace hF := hF.trans hw
   clear hs hF' hw
   refine seqR_nil ?_
   refine HT.seq ?_
   obtain ⟨x8, q9, hr⟩ := cl_some hr
   obtain ⟨x10, q11, hr⟩ := bd_some hr
   obtain ⟨e12, hr⟩ := ck_some hr
   obtain ⟨e13, hr⟩ := ck_some hr
   obtain ⟨x14, q15, hr⟩ := bd_some hr
   obtain ⟨x16, q17, hr⟩ := bd_some hr
   refine HT.text (l := ⟨_, true, .raw u7⟩ :: ⟨_, true, .raw (.bool ((gtD p0 y4) == ([] : List UInt8)))⟩ :: ⟨_, true, .raw (.bool ((gtD p0 y4) == ([] : List UInt8)))⟩ :: ⟨_, (true && (((gtD p0 y4) == ([] : List UInt8)) == false)), .raw u7⟩ :: ⟨_, (true && (((gtD p0 y4) == ([] : List UInt8)) == false)), .raw (.bool x8)⟩ :: ⟨_, (true && (((gtD p0 y4) == ([] : List UInt8)) == false)), .raw (.bool (!x8))⟩ :: ⟨_, true, .raw (.bool x10)⟩ :: ⟨_, true, .raw (.bool x10)⟩ :: ⟨_, (true && (x10 == false)), .raw (.int .i64 y4)⟩ :: ⟨_, (true && (x10 == false)), .raw (.bool (decide ((0 : Int) < y4)))⟩ :: ⟨_, (true && (x10 == false)), .raw (.bool (decide ((0 : Int) < y4)))⟩ :: ⟨_, ((true && (x10 == false)) && ((decide ((0 : Int) < y4)) == true)), .raw v0⟩ :: ⟨_, ((true && (x10 == false)) && ((decide ((0 : Int) < y4)) == true)), .raw (.int .i64 y4)⟩ :: ⟨_, ((true && (x10 == false)) && ((decide ((0 : Int) < y4)) == true)), .raw (.int .i64 (y4 - (1 : Int)))⟩ :: ⟨_, ((true && (x10 == false)) && ((decide ((0 : Int) < y4)) == true)), .qtr eStr A (gtD p0 (y4 - (1 : Int)))⟩ :: ⟨_, ((true && (x10 == false)) && ((decide ((0 : Int) < y4)) == true)), .rep eStr A (gtD p0 (y4 - (1 : Int)))⟩ :: ⟨_, ((true && (x10 == false)) && ((decide ((0 : Int) < y4)) == true)), .raw u7⟩ :: ⟨_, ((true && (x10 == false)) && ((decide ((0 : Int) < y4)) == true)), .raw (.bool (!(bLt (gtD p0 (y4 - (1 : Int))) (gtD p0 y4))))⟩ :: ⟨_, (true && (x10 == false)), .raw (.bool x14)⟩ :: ⟨_, true, .raw (.bool x16)⟩ :: []) (tl := []) (by kernel_rfl) (by kernel_rfl) (by kernel_rfl) ?_ ?_
   ·exact
     Obls.p (fun R' w' hw hs hd => of_move ((hs 4 rfl).trans h4)) <|
     Obls.p (fun R' w' hw hs hd => by have a0 : R' 12 = u7 := hd.g 0 rfl; have ra0 := (f_u7.fr hw).eq a0; exact of_seql ra0 ⟨_, rfl, ⟨_, rfl, rfl, by decide⟩⟩) <|
     Obls.p (fun R' w' hw hs hd => by have a0 : R' 13 = .bool ((gtD p0 y4) == ([] : List UInt8)) := hd.g 0 rfl; exact of_move a0) <|
     Obls.cons (Obl.grd 2 false _ _ _ rfl rfl rfl rfl rfl (by kernel_rfl) fun hg R' w' hw hs hd => by have a0 : R' 4 = u7 := (hs 4 rfl).trans h4; exact of_move a0) <|
     Obls.cons (Obl.grd 2 false _ _ _ rfl rfl rfl rfl rfl (by kernel_rfl) fun hg R' w' hw hs hd => by have a0 : R' 15 = u7 := hd 0 _ _ _ rfl rfl rfl rfl hg; have ra0 := (f_u7.fr hw).eq a0; exact of_call Tryz.call80 (M_impl_isAlphanumeric_ok (q9 hg) (hA.fr hw.size) ra0)) <|
     Obls.cons (Obl.grd 2 false _ _ _ rfl rfl rfl rfl rfl (by kernel_rfl) fun hg R' w' hw hs hd => by have a0 : R' 16 = .bool x8 := hd 0 _ _ _ rfl rfl rfl rfl hg; exact of_not a0) <|
     Obls.p (fun R' w' hw hs hd => by have a0 : R' 14 = .bool ((gtD p0 y4) == ([] : List UInt8)) := hd.g 0 rfl; exact of_pick ((gtD p0 y4) == ([] : List UInt8)) a0 (fun hc => by show _ = Value.bool x10; rw [q11, hc]; exact rfl) (fun hc => by have a2 : R' 17 = .bool (!x8) := hd 1 _ _ _ rfl rfl rfl rfl (g_and rfl (beq_of hc)); show _ = Value.bool x10; rw [q11, hc]; exact a2)) <|
     Obls.p (fun R' w' hw hs hd => by have a0 : R' 18 = .bool x10 := hd.g 0 rfl; exact of_move a0) <|
     Obls.cons (Obl.grd 7 false _ _ _ rfl rfl rfl rfl rfl (by kernel_rfl) fun hg R' w' hw hs hd => by have a0 : R' 3 = .int .i64 y4 := (hs 3 rfl).trans h3; exact of_move a0) <|
     Obls.cons (Obl.grd 7 false _ _ _ rfl rfl rfl rfl rfl (by kernel_rfl) fun hg R' w' hw hs hd => by have a0 : R' 20 = .int .i64 y4 := hd 0 _ _ _ rfl rfl rfl rfl hg; exact of_gtr a0 rfl) <|
     Obls.cons (Obl.grd 7 false _ _ _ rfl rfl rfl rfl rfl (by kernel_rfl) fun hg R' w' hw hs hd => by have a0 : R' 21 = .bool (decide ((0 : Int) < y4)) := hd 0 _ _ _ rfl rfl rfl rfl hg; exact of_move a0) <|
     Obls.cons (Obl.grd 10 true _ _ _ rfl rfl rfl rfl rfl (by kernel_rfl) fun hg R' w' hw hs hd => by have a0 : R' 0 = v0 := (hs 0 rfl).trans h0; exact of_move a0) <|
     Obls.cons (Obl.grd 10 true _ _ _ rfl rfl rfl rfl rfl (by kernel_rfl) fun hg R' w' hw hs hd => by have a0 : R' 3 = .int .i64 y4 := (hs 3 rfl).trans h3; exact of_move a0) <|
     Obls.cons (Obl.grd 10 true _ _ _ rfl rfl rfl rfl rfl (by kernel_rfl) fun hg R' w' hw hs hd => by have a0 : R' 24 = .int .i64 y4 := hd 0 _ _ _ rfl rfl rfl rfl hg; exact of_sub a0 rfl (gd e12 hg)) <|
     Obls.cons (Obl.grd 10 true _ _ _ rfl rfl rfl rfl rfl (by kernel_rfl) fun hg R' w' hw hs hd => by have a0 : R' 23 = v0 := hd 0 _ _ _ rfl rfl rfl rfl hg; have a1 : R' 25 = .int .i64 (y4 - (1 : Int)) := hd 1 _ _ _ rfl rfl rfl rfl hg; have ra0 := (f_v0.fr hw).eq a0; exact of_indexAddr ra0 a1 Tryz.underlying25 Tryz.sizeOf9 (gd e13 hg)) <|
     Obls.cons (Obl.grd 10 true _ _ _ rfl rfl rfl rfl rfl (by kernel_rfl) fun hg R' w' hw hs hd => by have a0 : QRep eStr A w' (R' 26) (gtD p0 (y4 - (1 : Int))) := hd 0 _ _ _ rfl rfl rfl rfl hg; exact (of_load a0.ptr Tryz.isAgg9 Tryz.sizeOf9)) <|
     Obls.cons (Obl.grd 10 true _ _ _ rfl rfl rfl rfl rfl (by kernel_rfl) fun hg R' w' hw hs hd => by have a0 : R' 4 = u7 := (hs 4 rfl).trans h4; exact of_move a0) <|
     Obls.cons (Obl.grd 10 true _ _ _ rfl rfl rfl rfl rfl (by kernel_rfl) fun hg R' w' hw hs hd => by have a0 : Rep eStr A w' (R' 27) (gtD p0 (y4 - (1 : Int))) := hd 0 _ _ _ rfl rfl rfl rfl hg; have a1 : R' 28 = u7 := hd 1 _ _ _ rfl rfl rfl rfl hg; have ra1 := (f_u7.fr hw).eq a1; exact of_sgeq a0 ra1) <|
     Obls.cons (Obl.grd 7 false _ _ _ rfl rfl rfl rfl rfl (by kernel_rfl) fun hg R' w' hw hs hd => by have a0 : R' 22 = .bool (decide ((0 : Int) < y4)) := hd 0 _ _ _ rfl rfl rfl rfl hg; exact of_pick (decide ((0 : Int) < y4)) a0 (fun hc => by have a1 : R' 29 = .bool (!(bLt (gtD p0 (y4 - (1 : Int))) (gtD p0 y4))) := hd 1 _ _ _ rfl rfl rfl rfl (g_and hg (beq_of hc)); show _ = Value.bool x14; rw [q15, hc]; exact a1) (fun hc => by show _ = Value.bool x14; rw [q15, hc]; exact rfl)) <|
     Obls.p (fun R' w' hw hs hd => by have a0 : R' 19 = .bool x10 := hd.g 0 rfl; exact of_pick x10 a0 (fun hc => by show _ = Value.bool x16; rw [q17, hc]; exact rfl) (fun hc => by have a2 : R' 30 = .bool x14 := hd 1 _ _ _ rfl rfl rfl rfl (g_and rfl (beq_of hc)); show _ = Value.bool x16; rw [q17, hc]; exact a2)) <|
     Obls.nil
   intro R w hw hs hF'
   replace h0 := (hs 0 rfl).trans h0
   replace h5 := (hs 5 rfl).trans h5
   replace h6 := (hs 6 rfl).trans h6
   replace h7 := (hs 7 rfl).trans h7
   have h31 : R 31 = .bool x16 := hF' 19 _ _ rfl rfl rfl
   replace f_v0 := f_v0.fr hw
   replace hA := hA.fr hw.size
   replace hF := hF.trans hw
   clear hs hF' hw
   refine seqR_nil ?_
   refine HT.cond x16 h31 (fun c18 => ?_) (fun c18 => ?_)
   ·have hr := cnd_t c18 hr
    refine HT.seq ?_
    refine HT.text (l := ⟨_, true, .raw (.bool false)⟩ :: []) (tl := []) (by kernel_rfl) (by kernel_rfl) (by kernel_rfl) ?_ ?_
    ·exact
      Obls.p (fun R' w' hw hs hd => of_assign rfl) <|
      Obls.nil
    intro R w hw hs hF'
    have h2 : R 2 = .bool false := hF' 0 _ _ rfl rfl rfl
    replace hA := hA.fr hw.size
    replace hF := hF.trans hw
    clear hs hF' hw
    refine seqR_nil ?_
    refine HT.ret ?_
    obtain rfl := Option.some.inj hr
    have hr := hr0
    replace hr : some _ = some _ := hr
    obtain rfl := Option.some.inj hr
    exact ⟨.inr rfl, [R 2], ⟨rfl, trivial⟩, h2, hF⟩
   ·have hr := cnd_f c18 hr
    refine HT.skip ?_
    obtain ⟨e19, hr⟩ := ck_some hr
    refine HT.text (l := ⟨_, true, .raw (.int .i64 (y4 + (1 : Int)))⟩ :: ⟨_, true, .raw (.int .i64 (y4 + (1 : Int)))⟩ :: []) (tl := []) (by kernel_rfl) (by kernel_rfl) (by kernel_rfl) ?_ ?_
    ·exact
      Obls.p (fun R' w' hw hs hd => of_add ((hs 7 rfl).trans h7) rfl e19) <|
      Obls.p (fun R' w' hw hs hd => by have a0 : R' 32 = .int .i64 (y4 + (1 : Int)) := hd.g 0 rfl; exact of_move a0) <|
      Obls.nil
    intro R w hw hs hF'
    replace h0 := (hs 0 rfl).trans h0
    replace h5 := (hs 5 rfl).trans h5
    replace h6 := (hs 6 rfl).trans h6
    have h7 : R 7 = .int .i64 (y4 + (1 : Int)) := hF' 1 _ _ rfl rfl rfl
    replace f_v0 := f_v0.fr hw
    replace hA := hA.fr hw.size
    replace hF := hF.trans hw
    clear hs hF' hw
    refine seqR_nil ?_
    exact Exists.intro k (And.intro (Nat.lt_succ_self k) ⟨_, hr, hA, hF, h0, h5, h6, h7, f_v0⟩)
  ·have hr := cnd_f c5 hr
   refine HT.exit ?_
   obtain rfl := Option.some.inj hr
   exact Exists.intro _ ⟨rfl, hA, hF⟩
 rintro R w ⟨s3, rfl, hA, hF⟩
 have hr := exM_go hr
 refine HT.seq ?_
 refine HT.text (l := ⟨_, true, .raw (.bool true)⟩ :: []) (tl := []) (by kernel_rfl) (by kernel_rfl) (by kernel_rfl) ?_ ?_
 ·exact
   Obls.p (fun R' w' hw hs hd => of_assign rfl) <|
   Obls.nil
 intro R w hw hs hF'
 have h2 : R 2 = .bool true := hF' 0 _ _ rfl rfl rfl
 replace hA := hA.fr hw.size
 replace hF := hF.trans hw
 clear hs hF' hw
 refine seqR_nil ?_
 refine HT.ret ?_
 obtain rfl := Option.some.inj hr
 exact ⟨.inr rfl, [R 2], ⟨rfl, trivial⟩, h2, hF⟩
def M_slices_Clone_string_string (fu : Nat) (p0 : List (List UInt8)) : Option (List (List UInt8)) :=
 ck (lenOK (([] : List (List UInt8)).length + p0.length)) <|
 some (([] : List (List UInt8)) ++ p0)
theorem M_slices_Clone_string_string_ok {fu : Nat} {A0 : Av} {p0 : List (List UInt8)} {r : List (List UInt8)} (hr : M_slices_Clone_string_string fu p0 = some r) {w : World} {v0 : Value} (hA : AvOK A0 w) (h0 : Rep (eSl eStr) A0 w v0 p0) :
  Calls Tryz.prog 42 #[v0] w fun e w' => ∃ v, e = .returned v ∧ ((Res.vec w.heap.size 9 eStr r).ok (addA A0 v) v w' ∧ Fr w w') := by
 unfold M_slices_Clone_string_string at hr
 obtain ⟨w0, hw0⟩ : ∃ w0, w0 = w := ⟨_, rfl⟩
 have hF : Fr w0 w := hw0 ▸ Fr.refl _
 have hA0 : ∀ b o, A0 b o → b < w0.heap.size := fun b o h => hw0 ▸ hA b o h
 have hA00 : AvOK A0 w0 := hA0
 rw [show w.heap.size = w0.heap.size from hw0 ▸ rfl]
 rw [show Fr w = Fr w0 from hw0 ▸ rfl]
 clear hw0
 obtain ⟨A, hAe⟩ : ∃ A, A = A0 := ⟨_, rfl⟩
 have hAA : ∀ b o, A0 b o → A b o := fun b o h => hAe ▸ h
 replace hA : AvOK A w := hAe ▸ hA
 have hO : IniOK [] A w := IniOK.nil
 refine calls_of_HT2 [.tmp 2] Tryz.func42 Tryz.ntmps42 (by decide) rfl rfl (Nat.le_of_ble_eq_true rfl) ?_
 intro R hR
 have f_v0 : Rep (eSl eStr) A w v0 p0 := hAe ▸ h0
 replace h0 : R 0 = v0 := hR 0 _ rfl
 clear hR hAe
 refine HT.seq ?_
 refine HT.text (l := ⟨_, true, .any⟩ :: []) (tl := []) (by kernel_rfl) (by kernel_rfl) (by kernel_rfl) ?_ ?_
 ·exact
   Obls.p (fun R' w' hw hs hd => of_assign trivial) <|
   Obls.nil
 intro R w hw hs hF'
 replace h0 := (hs 0 rfl).trans h0
 replace f_v0 := f_v0.fr hw
 replace hO := hO.fr hw
 replace hA := hA.fr hw.size
 replace hF := hF.trans hw
 clear hs hF' hw
 refine seqR_nil ?_
 refine HT.seq ?_
 refine HT.seq ?_
 refine HT.text (l := ⟨_, true, .raw v0⟩ :: ⟨_, true, .raw (.bool (isNilV v0))⟩ :: []) (tl := []) (by kernel_rfl) (by kernel_rfl) (by kernel_rfl) ?_ ?_
 ·exact
   Obls.p (fun R' w' hw hs hd => of_move ((hs 0 rfl).trans h0)) <|
   Obls.p (fun R' w' hw hs hd => by have a0 : R' 3 = v0 := hd.g 0 rfl; have ra0 := f_v0.fr hw; exact of_nil_eql a0 ra0 rfl Tryz.underlying25) <|
   Obls.nil
 intro R w hw hs hF'
 replace h0 := (hs 0 rfl).trans h0
 have h4 : R 4 = .bool (isNilV v0) := hF' 1 _ _ rfl rfl rfl
 replace f_v0 := f_v0.fr hw
 replace hO := hO.fr hw
 replace hA := hA.fr hw.size
 replace hF := hF.trans hw
 clear hs hF' hw
 refine seqR_nil ?_
 refine HT.cond (isNilV v0) h4 (fun c1 => ?_) (fun c1 => ?_)
 ·obtain rfl := nil_of_rep f_v0 c1
  refine HT.seq ?_
  refine HT.text (l := ⟨_, true, .raw (.slice none 0 0)⟩ :: []) (tl := []) (by kernel_rfl) (by kernel_rfl) (by kernel_rfl) ?_ ?_
  ·exact
    Obls.p (fun R' w' hw hs hd => of_assign rfl) <|
    Obls.nil
  intro R w hw hs hF'
  obtain ⟨u2, n_u2⟩ : ∃ u, u = Value.slice none 0 0 := ⟨_, rfl⟩
  have h2 : R 2 = u2 := (hF' 0 _ _ rfl rfl rfl).trans n_u2.symm
  replace hO := hO.fr hw
  replace hA := hA.fr hw.size
  replace hF := hF.trans hw
  clear hs hF' hw
  refine seqR_nil ?_
  replace hO := hO.nilcons (u := u2) n_u2 w0.heap.size 9 eStr
  refine HT.ret ?_
  replace hr : some ([] : List (List UInt8)) = some r := hr
  obtain rfl := Option.some.inj hr
  exact ⟨.inr rfl, [R 2], ⟨rfl, trivial⟩, (own_post (hO.ok 0 _ rfl) hAA h2), hF⟩
 ·skip
  refine HT.skip ?_
  refine HT.seq ?_
  obtain ⟨e3, hr⟩ := ck_some hr
  refine HT.textR [] (⟨_, true, [], some (.vec w0.heap.size 9 eStr ([] : List (List UInt8))), true, fun A => .any⟩ :: ⟨_, true, [], none, true, fun A => .raw v0⟩ :: ⟨_, true, [0], some (.vec w0.heap.size 9 eStr (([] : List (List UInt8)) ++ p0)), true, fun A => .any⟩ :: ⟨_, true, [2], some (.vec w0.heap.size 9 eStr (([] : List (List UInt8)) ++ p0)), true, fun A => .any⟩ :: []) (by kernel_rfl) (by kernel_rfl) (Wf.mk' (by kernel_rfl) (UAll.cons ust_any (UAll.cons ust_raw (UAll.cons ust_any (UAll.cons ust_any (UAll.nil))))) (by kernel_rfl) (by kernel_rfl)) hO hA ?_ ?_
  ·exact
    OblsR.cons (OblR.made _ rfl rfl rfl rfl fun A' R' w' ho hd => by exact made_build [] (E := eStr) trivial Tryz.underlying25 Tryz.sizeOf9 Tryz.zeroValue9 rfl rfl rfl (Nat.le_trans hF.size ho.ch.size)) <|
    OblsR.p (fun A' R' w' ho hd => of_move ((ho.old 0 rfl).trans h0)) <|
    OblsR.cons (OblR.took 0 _ _ rfl rfl rfl rfl rfl fun A' R' w' ho hd u hok hav hin hop hds => by have a1 : R' 6 = v0 := hd.g 1 rfl; have ra1 := (f_v0.stp ho.stp).eq a1; exact took_append (hop _ _ rfl rfl rfl rfl).symm hok hav (Nat.le_trans hF.size ho.ch.size) ra1 Tryz.underlying25 el_9 e3) <|
    OblsR.cons (OblR.took 2 _ _ rfl rfl rfl rfl rfl fun A' R' w' ho hd u hok hav hin hop hds => by exact took_assign (hop _ _ rfl rfl rfl rfl).symm hok hav) <|
    OblsR.nil
  intro done ρ σ A R w hdn hI
  obtain ⟨u4, e_u4⟩ : ∃ u, ρ 3 = u := ⟨_, rfl⟩
  have h2 : R 2 = u4 := (hI.opvR hdn 3 3 rfl rfl rfl rfl rfl).symm.trans e_u4
  replace hAA := hI.low' hAA hA0 (hO.ge (trivial))
  replace hF : Fr w0 w := hF.tr hI.ch (hO.ge (trivial))
  replace hO : IniOK [ob u4 (.vec w0.heap.size 9 eStr (([] : List (List UInt8)) ++ p0))] A w := hI.left hdn [(3, ob u4 (.vec w0.heap.size 9 eStr (([] : List (List UInt8)) ++ p0)))] ⟨rfl, rfl, e_u4, rfl, rfl, trivial⟩
  replace hA := hI.avok
  clear hI
  refine HT.ret ?_
  obtain rfl := Option.some.inj hr
  exact ⟨.inr rfl, [R 2], ⟨rfl, trivial⟩, (own_post (hO.ok 0 _ rfl) hAA h2), hF⟩
theorem M_slices_Clone_string_string_okR {fu : Nat} {A0 : Av} {p0 : List (List UInt8)} {r : List (List UInt8)} (hr : M_slices_Clone_string_string fu p0 = some r) {w : World} {v0 : Value} (hA : AvOK A0 w) (h0 : Rep (eSl eStr) A0 w v0 p0) :
  Calls Tryz.prog 42 #[v0] w fun e w' => ∃ v, e = .returned v ∧ (Rep (eSl eStr) A0 w' v r ∧ Fr w w') := by
 refine Calls.mono (M_slices_Clone_string_string_ok hr hA h0) ?_
 rintro e w' ⟨v, he, hv, hf⟩
 exact ⟨v, he, vec_rep hv (fun b o h => .inl h) hA, hf⟩
def M_impl_TokenFrequency_L0 (fu : Nat) (p0 : List T_impl_TokenCount) (p1 : List UInt8) : Nat → Int → Option (Ex Int Unit)
 | 0, _ => none
 | k + 1, y4 =>
  bif (decide (y4 < (p0.length : Int))) then (
   ck (inR y4 p0.length) <|
   bif (((gtD p0 y4).1) == p1) then (
    some (Ex.ret ((gtD p0 y4).2))
   ) else (
    ck (i64B (y4 + (1 : Int))) <|
    M_impl_TokenFrequency_L0 fu p0 p1 k (y4 + (1 : Int))
   )
  ) else (
   some (Ex.go ())
  )
def M_impl_TokenFrequency (fu : Nat) (p0 : List T_impl_TokenCount) (p1 : List UInt8) : Option Int :=
 cl true (M_impl_TokenFrequency_L0 fu p0 p1 fu (0 : Int)) fun rl1 =>
 exM rl1 (fun r => some r) fun s3 =>
 some (0 : Int)
theorem M_impl_TokenFrequency_ok {fu : Nat} {A0 : Av} {p0 : List T_impl_TokenCount} {p1 : List UInt8} {r : Int} (hr : M_impl_TokenFrequency fu p0 p1 = some r) {w : World} {v0 : Value} {v1 : Value} (hA : AvOK A0 w) (h0 : Rep (eSl E_impl_TokenCount) A0 w v0 p0) (h1 : Rep eStr A0 w v1 p1) :
  Calls Tryz.prog 85 #[v0, v1] w fun e w' => ∃ v, e = .returned v ∧ (v = .int .i64 r ∧ Fr w w') := by
 unfold M_impl_TokenFrequency at hr
 obtain ⟨w0, hw0⟩ : ∃ w0, w0 = w := ⟨_, rfl⟩
 have hF : Fr w0 w := hw0 ▸ Fr.refl _
 have hA0 : ∀ b o, A0 b o → b < w0.heap.size := fun b o h => hw0 ▸ hA b o h
 have hA00 : AvOK A0 w0 := hA0
 rw [show Fr w = Fr w0 from hw0 ▸ rfl]
 clear hw0
 obtain ⟨A, hAe⟩ : ∃ A, A = A0 := ⟨_, rfl⟩
 have hAA : ∀ b o, A0 b o → A b o := fun b o h => hAe ▸ h
 replace hA : AvOK A w := hAe ▸ hA
 have hO : IniOK [] A w := IniOK.nil
 refine calls_of_HT2 [.tmp 4] Tryz.func85 Tryz.ntmps85 (by decide) rfl rfl (Nat.le_of_ble_eq_true rfl) ?_
 intro R hR
 have f_v0 : Rep (eSl E_impl_TokenCount) A w v0 p0 := hAe ▸ h0
 replace h0 : R 0 = v0 := hR 0 _ rfl
 have f_v1 : Rep eStr A w v1 p1 := hAe ▸ h1
 replace h1 : R 1 = v1 := hR 1 _ rfl
 clear hR hAe
 refine HT.seq ?_
 refine HT.text (l := ⟨_, true, .raw (.int .i64 (0 : Int))⟩ :: []) (tl := []) (by kernel_rfl) (by kernel_rfl) (by kernel_rfl) ?_ ?_
 ·exact
   Obls.p (fun R' w' hw hs hd => of_assign rfl) <|
   Obls.nil
 intro R w hw hs hF'
 replace h0 := (hs 0 rfl).trans h0
 replace h1 := (hs 1 rfl).trans h1
 replace f_v0 := f_v0.fr hw
 replace f_v1 := f_v1.fr hw
 replace hO := hO.fr hw
 replace hA := hA.fr hw.size
 replace hF := hF.trans hw
 clear hs hF' hw
 refine seqR_nil ?_
 refine HT.seq ?_
 refine HT.seq ?_
 refine HT.text (l := ⟨_, true, .raw v0⟩ :: ⟨_, true, .raw (.int .i64 (p0.length : Int))⟩ :: ⟨_, true, .raw (.int .i64 (0 : Int))⟩ :: []) (tl := []) (by kernel_rfl) (by kernel_rfl) (by kernel_rfl) ?_ ?_
 ·exact
   Obls.p (fun R' w' hw hs hd => of_move ((hs 0 rfl).trans h0)) <|
   Obls.p (fun R' w' hw hs hd => by have a0 : R' 7 = v0 := hd.g 0 rfl; have ra0 := (f_v0.fr hw).eq a0; exact of_len_sl (aT := #[]) ra0 Tryz.underlying24) <|
   Obls.p (fun R' w' hw hs hd => of_move rfl) <|
   Obls.nil
 intro R w hw hs hF'
 replace h1 := (hs 1 rfl).trans h1
 have h7 : R 7 = v0 := hF' 0 _ _ rfl rfl rfl
 have h8 : R 8 = .int .i64 (p0.length : Int) := hF' 1 _ _ rfl rfl rfl
 have h9 : R 9 = .int .i64 (0 : Int) := hF' 2 _ _ rfl rfl rfl
 replace f_v0 := f_v0.fr hw
 replace f_v1 := f_v1.fr hw
 replace hO := hO.fr hw
 replace hA := hA.fr hw.size
 replace hF := hF.trans hw
 clear hs hF' hw
 refine seqR_nil ?_
 obtain ⟨rl1, q2, hr⟩ := cl_some hr
 replace q2 := q2 rfl
 refine HT.cut0 (fun R w => ∃ A : Av, ∃ (s3 : Unit), rl1 = Ex.go s3 ∧ AvOK A w ∧ Fr w0 w ∧ (∀ b o, A0 b o → A b o) ∧ IniOK [] A w) ?_ ?_
 ·refine HT.block ?_
  refine HT.loop (fun k R w => ∃ A : Av, ∃ (y4 : Int), M_impl_TokenFrequency_L0 fu p0 p1 k y4 = some rl1 ∧ AvOK A w ∧ Fr w0 w ∧ (∀ b o, A0 b o → A b o) ∧ IniOK [] A w ∧ R 1 = v1 ∧ R 7 = v0 ∧ R 8 = .int .i64 (p0.length : Int) ∧ R 9 = .int .i64 y4 ∧ Rep (eSl E_impl_TokenCount) A w v0 p0 ∧ Rep eStr A w v1 p1) fu ⟨_, _, q2, hA, hF, hAA, hO, h1, h7, h8, h9, f_v0, f_v1⟩ ?_
  have hr0 := hr; clear hr q2
  rintro k R w ⟨A, y4, hr, hA, hF, hAA, hO, h1, h7, h8, h9, f_v0, f_v1⟩
  rcases k with _ | k
  ·cases (show none = some _ from hr)
  rw [M_impl_TokenFrequency_L0] at hr
  refine HT.seq ?_
  refine HT.text (l := ⟨_, true, .raw (.bool (decide (y4 < (p0.length : Int))))⟩ :: []) (tl := []) (by kernel_rfl) (by kernel_rfl) (by kernel_rfl) ?_ ?_
  ·exact
    Obls.p (fun R' w' hw hs hd => of_lss ((hs 9 rfl).trans h9) ((hs 8 rfl).trans h8)) <|
    Obls.nil
  intro R w hw hs hF'
  replace h1 := (hs 1 rfl).trans h1
  replace h7 := (hs 7 rfl).trans h7
  replace h8 := (hs 8 rfl).trans h8
  replace h9 := (hs 9 rfl).trans h9
  have h10 : R 10 = .bool (decide (y4 < (p0.length : Int))) := hF' 0 _ _ rfl rfl rfl
  replace f_v0 := f_v0.fr hw
  replace f_v1 := f_v1.fr hw
  replace hO := hO.fr hw
  replace hA := hA.fr hw.size
  replace hF := hF.trans hw
  clear hs hF' hw
  refine seqR_nil ?_
  refine HT.seq ?_
  refine HT.cond (decide (y4 < (p0.length : Int))) h10 (fun c5 => ?_) (fun c5 => ?_)
  ·have hr := cnd_t c5 hr
   refine HT.skip ?_
   refine HT.seq ?_
   refine HT.block ?_
   refine HT.seq ?_
   obtain ⟨e6, hr⟩ := ck_some hr
   refine HT.textR [] (⟨_, true, [], none, true, fun A => .qtr E_impl_TokenCount A (gtD p0 y4)⟩ :: ⟨_, true, [], none, true, fun A => .rep E_impl_TokenCount A (gtD p0 y4)⟩ :: ⟨_, true, [], some (.box w0.heap.size 91 E_impl_TokenCount (([] : List UInt8), (0 : Int))), true, fun A => .any⟩ :: ⟨_, true, [2], some (.box w0.heap.size 91 E_impl_TokenCount (gtD p0 y4)), false, fun A => .any⟩ :: []) (by kernel_rfl) (by kernel_rfl) (Wf.mk' (by kernel_rfl) (UAll.cons ust_qtr (UAll.cons ust_rep (UAll.cons ust_any (UAll.cons ust_any (UAll.nil))))) (by kernel_rfl) (by kernel_rfl)) hO hA ?_ ?_
   ·exact
     OblsR.p (fun A' R' w' ho hd => by have ra0 := (f_v0.stp ho.stp).eq ((ho.old 7 rfl).trans h7); exact of_indexAddr ra0 ((ho.old 9 rfl).trans h9) Tryz.underlying24 Tryz.sizeOf91 e6) <|
     OblsR.p (fun A' R' w' ho hd => by have a0 : QRep E_impl_TokenCount A' w' (R' 11) (gtD p0 y4) := hd.g 0 rfl; exact (of_load a0.ptr Tryz.isAgg91 Tryz.sizeOf91)) <|
     OblsR.cons (OblR.made _ rfl rfl rfl rfl fun A' R' w' ho hd => by exact made_alloc Tryz.zeroValue91 (fun A w => rep_pr (rep1_str rfl (by decide)) rep1_int) (Nat.le_trans hF.size ho.ch.size)) <|
     OblsR.cons (OblR.took 2 _ _ rfl rfl rfl rfl rfl fun A' R' w' ho hd u hok hav hin hop hds => by have a1 : Rep E_impl_TokenCount A' w' (R' 12) (gtD p0 y4) := hd.g 1 rfl; obtain ⟨b, hb, hB', hbx⟩ := hok; have hop' := hop _ _ rfl rfl rfl rfl; exact took_store a1 (hop'.symm.trans hb) hb ⟨b, hb, hB', hbx⟩ hav (FldS.id _) Tryz.sizeOf91 rfl) <|
     OblsR.nil
   intro done ρ σ A R w hdn hI
   replace h1 : R 1 = v1 := (hI.reg rfl).trans h1
   replace h7 : R 7 = v0 := (hI.reg rfl).trans h7
   replace h8 : R 8 = .int .i64 (p0.length : Int) := (hI.reg rfl).trans h8
   replace h9 : R 9 = .int .i64 y4 := (hI.reg rfl).trans h9
   obtain ⟨b6_6, e_b6_6⟩ := hI.boxv hdn 3 rfl rfl
   have z8 := (hI.opnR hdn 3 3 rfl rfl rfl rfl rfl).symm.trans e_b6_6
   have h6 : R 6 = (.pointer (some ⟨b6_6, 0, none⟩)) := (hI.opvR hdn 2 2 rfl rfl rfl rfl rfl).symm.trans z8
   replace f_v0 := f_v0.stp hI.stp
   replace f_v1 := f_v1.stp hI.stp
   replace hAA := hI.low' hAA hA0 (hO.ge (trivial))
   replace hF : Fr w0 w := hF.tr hI.ch (hO.ge (trivial))
   replace hO : IniOK [ob (.pointer (some ⟨b6_6, 0, none⟩)) (.box w0.heap.size 91 E_impl_TokenCount (gtD p0 y4))] A w := hI.left hdn [(3, ob (.pointer (some ⟨b6_6, 0, none⟩)) (.box w0.heap.size 91 E_impl_TokenCount (gtD p0 y4)))] ⟨rfl, rfl, e_b6_6, rfl, rfl, trivial⟩
   replace hA := hI.avok
   clear hI
   refine HT.seq ?_
   refine HT.text (l := ⟨_, true, .raw (.pointer (some ⟨b6_6, 0, none⟩))⟩ :: ⟨_, true, .rep eStr A ((gtD p0 y4).1)⟩ :: ⟨_, true, .raw v1⟩ :: ⟨_, true, .raw (.bool (((gtD p0 y4).1) == p1))⟩ :: []) (tl := []) (by kernel_rfl) (by kernel_rfl) (by kernel_rfl) ?_ ?_
   ·exact
     Obls.p (fun R' w' hw hs hd => of_fieldAddr_raw ((hs 6 rfl).trans h6) ff_91_0 Tryz.sizeOf9 (by decide) rfl) <|
     Obls.p (fun R' w' hw hs hd => by have a0 : R' 13 = (.pointer (some ⟨b6_6, 0, none⟩)) := hd.g 0 rfl; exact (of_load_box ((hO.fr hw).ok 0 _ rfl).1 a0 fl_impl_TokenCount_0 rfl Tryz.isAgg9 Tryz.sizeOf9)) <|
     Obls.p (fun R' w' hw hs hd => of_move ((hs 1 rfl).trans h1)) <|
     Obls.p (fun R' w' hw hs hd => by have a0 : Rep eStr A w' (R' 14) ((gtD p0 y4).1) := hd.g 0 rfl; have a1 : R' 15 = v1 := hd.g 1 rfl; have ra1 := (f_v1.fr hw).eq a1; exact of_seql a0 ra1) <|
     Obls.nil
   intro R w hw hs hF'
   replace h1 := (hs 1 rfl).trans h1
   replace h6 := (hs 6 rfl).trans h6
   replace h7 := (hs 7 rfl).trans h7
   replace h8 := (hs 8 rfl).trans h8
   replace h9 := (hs 9 rfl).trans h9
   have h16 : R 16 = .bool (((gtD p0 y4).1) == p1) := hF' 3 _ _ rfl rfl rfl
   replace f_v0 := f_v0.fr hw
   replace f_v1 := f_v1.fr hw
   replace hO := hO.fr hw
   replace hA := hA.fr hw.size
   replace hF := hF.trans hw
   clear hs hF' hw
   refine seqR_nil ?_
   refine HT.cond (((gtD p0 y4).1) == p1) h16 (fun c9 => ?_) (fun c9 => ?_)
   ·have hr := cnd_t c9 hr
    refine HT.seq ?_
    refine HT.text (l := ⟨_, true, .raw (.pointer (some ⟨b6_6, 1, none⟩))⟩ :: ⟨_, true, .raw (.int .i64 ((gtD p0 y4).2))⟩ :: ⟨_, true, .raw (.int .i64 ((gtD p0 y4).2))⟩ :: []) (tl := []) (by kernel_rfl) (by kernel_rfl) (by kernel_rfl) ?_ ?_
    ·exact
      Obls.p (fun R' w' hw hs hd => of_fieldAddr_raw ((hs 6 rfl).trans h6) ff_91_1 Tryz.sizeOf3 (by decide) rfl) <|
      Obls.p (fun R' w' hw hs hd => by have a0 : R' 17 = (.pointer (some ⟨b6_6, 1, none⟩)) := hd.g 0 rfl; exact OpF.int (of_load_box ((hO.fr hw).ok 0 _ rfl).1 a0 fl_impl_TokenCount_1 rfl Tryz.isAgg3 Tryz.sizeOf3)) <|
      Obls.p (fun R' w' hw hs hd => by have a0 : R' 18 = .int .i64 ((gtD p0 y4).2) := hd.g 0 rfl; exact of_assign a0) <|
      Obls.nil
    intro R w hw hs hF'
    have h4 : R 4 = .int .i64 ((gtD p0 y4).2) := hF' 2 _ _ rfl rfl rfl
    replace hO := hO.fr hw
    replace hO : IniOK [] A w := hO.sub [] trivial
    replace hA := hA.fr hw.size
    replace hF := hF.trans hw
    clear hs hF' hw
    refine seqR_nil ?_
    refine HT.ret ?_
    obtain rfl := Option.some.inj hr
    have hr := hr0
    replace hr : some _ = some _ := hr
    obtain rfl := Option.some.inj hr
    exact ⟨.inr rfl, [R 4], ⟨rfl, trivial⟩, h4, hF⟩
   ·have hr := cnd_f c9 hr
    refine HT.skip ?_
    obtain ⟨e10, hr⟩ := ck_some hr
    refine HT.text (l := ⟨_, true, .raw (.int .i64 (y4 + (1 : Int)))⟩ :: ⟨_, true, .raw (.int .i64 (y4 + (1 : Int)))⟩ :: []) (tl := []) (by kernel_rfl) (by kernel_rfl) (by kernel_rfl) ?_ ?_
    ·exact
      Obls.p (fun R' w' hw hs hd => of_add ((hs 9 rfl).trans h9) rfl e10) <|
      Obls.p (fun R' w' hw hs hd => by have a0 : R' 19 = .int .i64 (y4 + (1 : Int)) := hd.g 0 rfl; exact of_move a0) <|
      Obls.nil
    intro R w hw hs hF'
    replace h1 := (hs 1 rfl).trans h1
    replace h7 := (hs 7 rfl).trans h7
    replace h8 := (hs 8 rfl).trans h8
    have h9 : R 9 = .int .i64 (y4 + (1 : Int)) := hF' 1 _ _ rfl rfl rfl
    replace f_v0 := f_v0.fr hw
    replace f_v1 := f_v1.fr hw
    replace hO := hO.fr hw
    replace hO : IniOK [] A w := hO.sub [] trivial
    replace hA := hA.fr hw.size
    replace hF := hF.trans hw
    clear hs hF' hw
    refine seqR_nil ?_
    exact Exists.intro k (And.intro (Nat.lt_succ_self k) ⟨_, _, hr, hA, hF, hAA, hO, h1, h7, h8, h9, f_v0, f_v1⟩)
  ·have hr := cnd_f c5 hr
   refine HT.exit ?_
   obtain rfl := Option.some.inj hr
   exact Exists.intro _ ⟨_, rfl, hA, hF, hAA, hO⟩
 rintro R w ⟨A, s3, rfl, hA, hF, hAA, hO⟩
 have hr := exM_go hr
 refine HT.seq ?_
 refine HT.text (l := ⟨_, true, .raw (.int .i64 (0 : Int))⟩ :: []) (tl := []) (by kernel_rfl) (by kernel_rfl) (by kernel_rfl) ?_ ?_
 ·exact
   Obls.p (fun R' w' hw hs hd => of_assign rfl) <|
   Obls.nil
 intro R w hw hs hF'
 have h4 : R 4 = .int .i64 (0 : Int) := hF' 0 _ _ rfl rfl rfl
 replace hO := hO.fr hw
 replace hA := hA.fr hw.size
 replace hF := hF.trans hw
 clear hs hF' hw
 refine seqR_nil ?_
 refine HT.ret ?_
 obtain rfl := Option.some.inj hr
 exact ⟨.inr rfl, [R 4], ⟨rfl, trivial⟩, h4, hF⟩
def M_cmp_isNaN_int (fu : Nat) (p0 : Int) : Option Bool :=
 some (p0 != p0)
theorem M_cmp_isNaN_int_ok {fu : Nat} {A : Av} {p0 : Int} {r : Bool} (hr : M_cmp_isNaN_int fu p0 = some r) {w : World} {v0 : Value} (hA : AvOK A w) (h0 : v0 = .int .i64 p0) :
  Calls Tryz.prog 106 #[v0] w fun e w' => ∃ v, e = .returned v ∧ (v = .bool r ∧ Fr w w') := by
 unfold M_cmp_isNaN_int at hr
 obtain ⟨w0, hw0⟩ : ∃ w0, w0 = w := ⟨_, rfl⟩
 have hF : Fr w0 w := hw0 ▸ Fr.refl _
 rw [show Fr w = Fr w0 from hw0 ▸ rfl]
 clear hw0
 refine calls_of_HT2 [.tmp 2] Tryz.func106 Tryz.ntmps106 (by decide) rfl rfl (Nat.le_of_ble_eq_true rfl) ?_
 intro R hR
 replace h0 : R 0 = .int .i64 p0 := (hR 0 _ rfl).trans h0
 clear hR
 refine HT.seq ?_
 refine HT.text (l := ⟨_, true, .raw (.bool false)⟩ :: []) (tl := []) (by kernel_rfl) (by kernel_rfl) (by kernel_rfl) ?_ ?_
 ·exact
   Obls.p (fun R' w' hw hs hd => of_assign rfl) <|
   Obls.nil
 intro R w hw hs hF'
 replace h0 := (hs 0 rfl).trans h0
 replace hA := hA.fr hw.size
 replace hF := hF.trans hw
 clear hs hF' hw
 refine seqR_nil ?_
 refine HT.seq ?_
 refine HT.text (l := ⟨_, true, .raw (.int .i64 p0)⟩ :: ⟨_, true, .raw (.int .i64 p0)⟩ :: ⟨_, true, .raw (.bool (p0 != p0))⟩ :: ⟨_, true, .raw (.bool (p0 != p0))⟩ :: []) (tl := []) (by kernel_rfl) (by kernel_rfl) (by kernel_rfl) ?_ ?_
 ·exact
   Obls.p (fun R' w' hw hs hd => of_move ((hs 0 rfl).trans h0)) <|
   Obls.p (fun R' w' hw hs hd => of_move ((hs 0 rfl).trans h0)) <|
   Obls.p (fun R' w' hw hs hd => by have a0 : R' 3 = .int .i64 p0 := hd.g 0 rfl; have a1 : R' 4 = .int .i64 p0 := hd.g 1 rfl; exact of_neq a0 a1) <|
   Obls.p (fun R' w' hw hs hd => by have a0 : R' 5 = .bool (p0 != p0) := hd.g 0 rfl; exact of_assign a0) <|
   Obls.nil
 intro R w hw hs hF'
 have h2 : R 2 = .bool (p0 != p0) := hF' 3 _ _ rfl rfl rfl
 replace hA := hA.fr hw.size
 replace hF := hF.trans hw
 clear hs hF' hw
 refine seqR_nil ?_
 refine HT.ret ?_
 obtain rfl := Option.some.inj hr
 exact ⟨.inr rfl, [R 2], ⟨rfl, trivial⟩, h2, hF⟩
end Go.Proofs.YtkebpojbbfnehaaGreat
