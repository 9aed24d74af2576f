/- Printed by dec.py: plain functions and the proofs that the code computes them. No statement of the seat is proved here. -/
import Derived.Test.YtcodfkieaoomnaaDoorTd
namespace Go.Proofs.YtcodfkieaoomnaaDoor
open Go.RowKit
set_option linter.unusedVariables false
set_option maxRecDepth 100000
set_option maxHeartbeats 4000000
def M_spec_l2Cut_L0 (fu : Nat) (p0 : List UInt8) (p1 : Int) : Nat → Int → Int → (List (List UInt8)) → Option (Int × (List (List UInt8)))
 | 0, _, _, _ => none
 | k + 1, y5, y6, y7 =>
  bif (decide (y6 < (p0.length : Int))) then (
   ck (inR y6 p0.length) <|
   bif ((bAt p0 y6) == p1) then (
    ck (subR y5 y6 p0.length) <|
    ck (lenOK (y7.length + ([(subL p0 y5 y6)] : List (List UInt8)).length)) <|
    ck (i64B (y6 + (1 : Int))) <|
    ck (i64B (y6 + (1 : Int))) <|
    M_spec_l2Cut_L0 fu p0 p1 k (y6 + (1 : Int)) (y6 + (1 : Int)) (y7 ++ ([(subL p0 y5 y6)] : List (List UInt8)))
   ) else (
    ck (i64B (y6 + (1 : Int))) <|
    M_spec_l2Cut_L0 fu p0 p1 k y5 (y6 + (1 : Int)) y7
   )
  ) else (
   some (y5, y7)
  )
def M_spec_l2Cut (fu : Nat) (p0 : List UInt8) (p1 : Int) : Option (List (List UInt8)) :=
 cl true (M_spec_l2Cut_L0 fu p0 p1 fu (0 : Int) (0 : Int) ([] : List (List UInt8))) fun s4 =>
 ck (subR s4.1 (p0.length : Int) p0.length) <|
 ck (lenOK (s4.2.length + ([(subL p0 s4.1 (p0.length : Int))] : List (List UInt8)).length)) <|
 some (s4.2 ++ ([(subL p0 s4.1 (p0.length : Int))] : List (List UInt8)))
theorem M_spec_l2Cut_ok {fu : Nat} {A0 : Av} {p0 : List UInt8} {p1 : Int} {r : List (List UInt8)} (hr : M_spec_l2Cut fu p0 p1 = some r) {w : World} {v0 : Value} {v1 : Value} (hA : AvOK A0 w) (h0 : Rep eStr A0 w v0 p0) (h1 : v1 = .int .u8 p1) :
  Calls Tryd.prog 15 #[v0, v1] w fun e w' => ∃ v, e = .returned v ∧ ((Res.vec w.heap.size 9 eStr r).ok (addA A0 v) v w' ∧ Fr w w') := by
 unfold M_spec_l2Cut at hr
 obtain ⟨w0, hw0⟩ : ∃ w0, w0 = w := ⟨_, rfl⟩
 have hF : Fr w0 w := hw0 ▸ Fr.refl _
 have hA0 : ∀ b o, A0 b o → b < w0.heap.size := fun b o h => hw0 ▸ hA b o h
 have hA00 : AvOK A0 w0 := hA0
 rw [show w.heap.size = w0.heap.size from hw0 ▸ rfl]
 rw [show Fr w = Fr w0 from hw0 ▸ rfl]
 clear hw0
 obtain ⟨A, hAe⟩ : ∃ A, A = A0 := ⟨_, rfl⟩
 have hAA : ∀ b o, A0 b o → A b o := fun b o h => hAe ▸ h
 replace hA : AvOK A w := hAe ▸ hA
 have hO : IniOK [] A w := IniOK.nil
 refine calls_of_HT2 [.tmp 4] Tryd.func15 Tryd.ntmps15 (by decide) rfl rfl (Nat.le_of_ble_eq_true rfl) ?_
 intro R hR
 have f_v0 : Rep eStr A w v0 p0 := hAe ▸ h0
 replace h0 : R 0 = v0 := hR 0 _ rfl
 replace h1 : R 1 = .int .u8 p1 := (hR 1 _ rfl).trans h1
 clear hR hAe
 refine HT.seq ?_
 refine HT.text (l := ⟨_, true, .any⟩ :: []) (tl := []) (by kernel_rfl) (by kernel_rfl) (by kernel_rfl) ?_ ?_
 ·exact
   Obls.p (fun R' w' hw hs hd => of_assign trivial) <|
   Obls.nil
 intro R w hw hs hF'
 replace h0 := (hs 0 rfl).trans h0
 replace h1 := (hs 1 rfl).trans h1
 replace f_v0 := f_v0.fr hw
 replace hO := hO.fr hw
 replace hA := hA.fr hw.size
 replace hF := hF.trans hw
 clear hs hF' hw
 refine seqR_nil ?_
 refine HT.seq ?_
 refine HT.textR [] (⟨_, true, [], some (.vec w0.heap.size 9 eStr ([] : List (List UInt8))), true, fun A => .any⟩ :: ⟨_, true, [0], some (.vec w0.heap.size 9 eStr ([] : List (List UInt8))), true, fun A => .any⟩ :: []) (by kernel_rfl) (by kernel_rfl) (Wf.mk' (by kernel_rfl) (UAll.cons ust_any (UAll.cons ust_any (UAll.nil))) (by kernel_rfl) (by kernel_rfl)) hO hA ?_ ?_
 ·exact
   OblsR.cons (OblR.made _ rfl rfl rfl rfl fun A' R' w' ho hd => by exact made_build [] (E := eStr) trivial Tryd.underlying35 Tryd.sizeOf9 Tryd.zeroValue9 rfl rfl rfl (Nat.le_trans hF.size ho.ch.size)) <|
   OblsR.cons (OblR.took 0 _ _ rfl rfl rfl rfl rfl fun A' R' w' ho hd u hok hav hin hop hds => by exact took_assign (hop _ _ rfl rfl rfl rfl).symm hok hav) <|
   OblsR.nil
 intro done ρ σ A R w hdn hI
 replace h0 : R 0 = v0 := (hI.reg rfl).trans h0
 replace h1 : R 1 = .int .u8 p1 := (hI.reg rfl).trans h1
 obtain ⟨u1, e_u1⟩ : ∃ u, ρ 1 = u := ⟨_, rfl⟩
 have h5 : R 5 = u1 := (hI.opvR hdn 1 1 rfl rfl rfl rfl rfl).symm.trans e_u1
 replace f_v0 := f_v0.stp hI.stp
 replace hAA := hI.low' hAA hA0 (hO.ge (trivial))
 replace hF : Fr w0 w := hF.tr hI.ch (hO.ge (trivial))
 replace hO : IniOK [ob u1 (.vec w0.heap.size 9 eStr ([] : List (List UInt8)))] A w := hI.left hdn [(1, ob u1 (.vec w0.heap.size 9 eStr ([] : List (List UInt8))))] ⟨rfl, rfl, e_u1, rfl, rfl, trivial⟩
 replace hA := hI.avok
 clear hI
 refine HT.seq ?_
 refine HT.text (l := ⟨_, true, .raw (.int .i64 (0 : Int))⟩ :: []) (tl := []) (by kernel_rfl) (by kernel_rfl) (by kernel_rfl) ?_ ?_
 ·exact
   Obls.p (fun R' w' hw hs hd => of_assign rfl) <|
   Obls.nil
 intro R w hw hs hF'
 replace h0 := (hs 0 rfl).trans h0
 replace h1 := (hs 1 rfl).trans h1
 replace h5 := (hs 5 rfl).trans h5
 have h6 : R 6 = .int .i64 (0 : Int) := hF' 0 _ _ rfl rfl rfl
 replace f_v0 := f_v0.fr hw
 replace hO := hO.fr hw
 replace hA := hA.fr hw.size
 replace hF := hF.trans hw
 clear hs hF' hw
 refine seqR_nil ?_
 refine HT.seq ?_
 refine HT.seq ?_
 refine HT.text (l := ⟨_, true, .raw (.int .i64 (0 : Int))⟩ :: []) (tl := []) (by kernel_rfl) (by kernel_rfl) (by kernel_rfl) ?_ ?_
 ·exact
   Obls.p (fun R' w' hw hs hd => of_assign rfl) <|
   Obls.nil
 intro R w hw hs hF'
 replace h0 := (hs 0 rfl).trans h0
 replace h1 := (hs 1 rfl).trans h1
 replace h5 := (hs 5 rfl).trans h5
 replace h6 := (hs 6 rfl).trans h6
 have h7 : R 7 = .int .i64 (0 : Int) := hF' 0 _ _ rfl rfl rfl
 replace f_v0 := f_v0.fr hw
 replace hO := hO.fr hw
 replace hA := hA.fr hw.size
 replace hF := hF.trans hw
 clear hs hF' hw
 refine seqR_nil ?_
 obtain ⟨rl2, q3, hr⟩ := cl_some hr
 replace q3 := q3 rfl
 refine HT.cut0 (fun R w => ∃ A : Av, ∃ (s4 : Int × (List (List UInt8))) (uo_u1 : Value), rl2 = s4 ∧ AvOK A w ∧ Fr w0 w ∧ (∀ b o, A0 b o → A b o) ∧ IniOK [ob uo_u1 (.vec w0.heap.size 9 eStr s4.2)] A w ∧ R 0 = v0 ∧ R 5 = uo_u1 ∧ R 6 = .int .i64 s4.1 ∧ Rep eStr A w v0 p0) ?_ ?_
 ·refine HT.block ?_
  refine HT.loop (fun k R w => ∃ A : Av, ∃ (y5 : Int) (y6 : Int) (y7 : List (List UInt8)) (ul_u1 : Value), M_spec_l2Cut_L0 fu p0 p1 k y5 y6 y7 = some rl2 ∧ AvOK A w ∧ Fr w0 w ∧ (∀ b o, A0 b o → A b o) ∧ IniOK [ob ul_u1 (.vec w0.heap.size 9 eStr y7)] A w ∧ R 0 = v0 ∧ R 1 = .int .u8 p1 ∧ R 5 = ul_u1 ∧ R 6 = .int .i64 y5 ∧ R 7 = .int .i64 y6 ∧ Rep eStr A w v0 p0) fu ⟨_, _, _, _, u1, q3, hA, hF, hAA, hO, h0, h1, h5, h6, h7, f_v0⟩ ?_
  have hr0 := hr; clear hr q3
  rintro k R w ⟨A, y5, y6, y7, ul_u1, hr, hA, hF, hAA, hO, h0, h1, h5, h6, h7, f_v0⟩
  rcases k with _ | k
  ·cases (show none = some _ from hr)
  rw [M_spec_l2Cut_L0] at hr
  refine HT.seq ?_
  refine HT.seq ?_
  refine HT.text (l := ⟨_, true, .raw (.int .i64 y6)⟩ :: ⟨_, true, .raw v0⟩ :: ⟨_, true, .raw (.int .i64 (p0.length : Int))⟩ :: ⟨_, true, .raw (.bool (decide (y6 < (p0.length : Int))))⟩ :: []) (tl := []) (by kernel_rfl) (by kernel_rfl) (by kernel_rfl) ?_ ?_
  ·exact
    Obls.p (fun R' w' hw hs hd => of_move ((hs 7 rfl).trans h7)) <|
    Obls.p (fun R' w' hw hs hd => of_move ((hs 0 rfl).trans h0)) <|
    Obls.p (fun R' w' hw hs hd => by have a0 : R' 10 = v0 := hd.g 0 rfl; have ra0 := (f_v0.fr hw).eq a0; exact of_len_str ra0 Tryd.underlying9) <|
    Obls.p (fun R' w' hw hs hd => by have a0 : R' 9 = .int .i64 y6 := hd.g 0 rfl; have a1 : R' 11 = .int .i64 (p0.length : Int) := hd.g 1 rfl; exact of_lss a0 a1) <|
    Obls.nil
  intro R w hw hs hF'
  replace h0 := (hs 0 rfl).trans h0
  replace h1 := (hs 1 rfl).trans h1
  replace h5 := (hs 5 rfl).trans h5
  replace h6 := (hs 6 rfl).trans h6
  replace h7 := (hs 7 rfl).trans h7
  have h12 : R 12 = .bool (decide (y6 < (p0.length : Int))) := hF' 3 _ _ rfl rfl rfl
  replace f_v0 := f_v0.fr hw
  replace hO := hO.fr hw
  replace hA := hA.fr hw.size
  replace hF := hF.trans hw
  clear hs hF' hw
  refine seqR_nil ?_
  refine HT.cond (decide (y6 < (p0.length : Int))) h12 (fun c8 => ?_) (fun c8 => ?_)
  ·have hr := cnd_t c8 hr
   refine HT.skip ?_
   refine HT.seq ?_
   refine HT.block ?_
   refine HT.seq ?_
   obtain ⟨e9, hr⟩ := ck_some hr
   refine HT.text (l := ⟨_, true, .raw v0⟩ :: ⟨_, true, .raw (.int .i64 y6)⟩ :: ⟨_, true, .raw (.int .u8 (bAt p0 y6))⟩ :: ⟨_, true, .raw (.int .u8 p1)⟩ :: ⟨_, true, .raw (.bool ((bAt p0 y6) == p1))⟩ :: []) (tl := []) (by kernel_rfl) (by kernel_rfl) (by kernel_rfl) ?_ ?_
   ·exact
     Obls.p (fun R' w' hw hs hd => of_move ((hs 0 rfl).trans h0)) <|
     Obls.p (fun R' w' hw hs hd => of_move ((hs 7 rfl).trans h7)) <|
     Obls.p (fun R' w' hw hs hd => by have a0 : R' 15 = v0 := hd.g 0 rfl; have ra0 := (f_v0.fr hw).eq a0; have a1 : R' 16 = .int .i64 y6 := hd.g 1 rfl; exact of_strIndex ra0 a1 Tryd.underlying9 e9) <|
     Obls.p (fun R' w' hw hs hd => of_move ((hs 1 rfl).trans h1)) <|
     Obls.p (fun R' w' hw hs hd => by have a0 : R' 17 = .int .u8 (bAt p0 y6) := hd.g 0 rfl; have a1 : R' 18 = .int .u8 p1 := hd.g 1 rfl; exact of_eql a0 a1) <|
     Obls.nil
   intro R w hw hs hF'
   replace h0 := (hs 0 rfl).trans h0
   replace h1 := (hs 1 rfl).trans h1
   replace h5 := (hs 5 rfl).trans h5
   replace h6 := (hs 6 rfl).trans h6
   replace h7 := (hs 7 rfl).trans h7
   have h19 : R 19 = .bool ((bAt p0 y6) == p1) := hF' 4 _ _ rfl rfl rfl
   replace f_v0 := f_v0.fr hw
   replace hO := hO.fr hw
   replace hA := hA.fr hw.size
   replace hF := hF.trans hw
   clear hs hF' hw
   refine seqR_nil ?_
   refine HT.cond ((bAt p0 y6) == p1) h19 (fun c10 => ?_) (fun c10 => ?_)
   ·have hr := cnd_t c10 hr
    refine HT.seq ?_
    obtain ⟨e11, hr⟩ := ck_some hr
    obtain ⟨e12, hr⟩ := ck_some hr
    refine HT.textR [ob ul_u1 (.vec w0.heap.size 9 eStr y7)] (⟨_, true, [], none, true, fun A => .raw ul_u1⟩ :: ⟨_, true, [], none, true, fun A => .raw v0⟩ :: ⟨_, true, [], none, true, fun A => .raw (.int .i64 y5)⟩ :: ⟨_, true, [], none, true, fun A => .raw (.int .i64 y6)⟩ :: ⟨_, true, [], none, true, fun A => .rep eStr A (subL p0 y5 y6)⟩ :: ⟨_, true, [], none, true, fun A => .rep (eSl eStr) A ([(subL p0 y5 y6)] : List (List UInt8))⟩ :: ⟨_, true, [0], some (.vec w0.heap.size 9 eStr (y7 ++ ([(subL p0 y5 y6)] : List (List UInt8)))), true, fun A => .any⟩ :: ⟨_, true, [7], some (.vec w0.heap.size 9 eStr (y7 ++ ([(subL p0 y5 y6)] : List (List UInt8)))), true, fun A => .any⟩ :: []) (by kernel_rfl) (by kernel_rfl) (Wf.mk' (by kernel_rfl) (UAll.cons ust_raw (UAll.cons ust_raw (UAll.cons ust_raw (UAll.cons ust_raw (UAll.cons ust_rep (UAll.cons ust_rep (UAll.cons ust_any (UAll.cons ust_any (UAll.nil))))))))) (by kernel_rfl) (by kernel_rfl)) hO hA ?_ ?_
    ·exact
      OblsR.p (fun A' R' w' ho hd => of_move ((ho.old 5 rfl).trans h5)) <|
      OblsR.p (fun A' R' w' ho hd => of_move ((ho.old 0 rfl).trans h0)) <|
      OblsR.p (fun A' R' w' ho hd => of_move ((ho.old 6 rfl).trans h6)) <|
      OblsR.p (fun A' R' w' ho hd => of_move ((ho.old 7 rfl).trans h7)) <|
      OblsR.p (fun A' R' w' ho hd => by have a0 : R' 21 = v0 := hd.g 0 rfl; have a1 : R' 22 = .int .i64 y5 := hd.g 1 rfl; have a2 : R' 23 = .int .i64 y6 := hd.g 2 rfl; have ra0 := (f_v0.stp ho.stp).eq a0; exact of_slice_str ra0 a1 a2 Tryd.underlying9  e11) <|
      OblsR.p (fun A' R' w' ho hd => by have a0 : Rep eStr A' w' (R' 24) (subL p0 y5 y6) := hd.g 0 rfl; exact of_build [_] (E := eStr) ⟨a0, trivial⟩ Tryd.underlying35 Tryd.sizeOf9 Tryd.zeroValue9 rfl rfl rfl ho.av) <|
      OblsR.cons (OblR.took 0 _ _ rfl rfl rfl rfl rfl fun A' R' w' ho hd u hok hav hin hop hds => by have a0 : R' 20 = ul_u1 := hd.g 0 rfl; have a1 : Rep (eSl eStr) A' w' (R' 25) ([(subL p0 y5 y6)] : List (List UInt8)) := hd.g 1 rfl; exact took_append (a0.trans (hin _ rfl).symm) hok hav (Nat.le_trans hF.size ho.ch.size) a1 Tryd.underlying35 el_9 e12) <|
      OblsR.cons (OblR.took 7 _ _ rfl rfl rfl rfl rfl fun A' R' w' ho hd u hok hav hin hop hds => by exact took_assign (hop _ _ rfl rfl rfl rfl).symm hok hav) <|
      OblsR.nil
    intro done ρ σ A R w hdn hI
    replace h0 : R 0 = v0 := (hI.reg rfl).trans h0
    replace h1 : R 1 = .int .u8 p1 := (hI.reg rfl).trans h1
    replace h7 : R 7 = .int .i64 y6 := (hI.reg rfl).trans h7
    obtain ⟨u13, e_u13⟩ : ∃ u, ρ 8 = u := ⟨_, rfl⟩
    have h5 : R 5 = u13 := (hI.opvR hdn 8 7 rfl rfl rfl rfl rfl).symm.trans e_u13
    replace f_v0 := f_v0.stp hI.stp
    replace hAA := hI.low' hAA hA0 (hO.ge (⟨rfl, trivial⟩))
    replace hF : Fr w0 w := hF.tr hI.ch (hO.ge (⟨rfl, trivial⟩))
    replace hO : IniOK [ob u13 (.vec w0.heap.size 9 eStr (y7 ++ ([(subL p0 y5 y6)] : List (List UInt8))))] A w := hI.left hdn [(8, ob u13 (.vec w0.heap.size 9 eStr (y7 ++ ([(subL p0 y5 y6)] : List (List UInt8)))))] ⟨rfl, rfl, e_u13, rfl, rfl, trivial⟩
    replace hA := hI.avok
    clear hI
    obtain ⟨e14, hr⟩ := ck_some hr
    refine HT.text (l := ⟨_, true, .raw (.int .i64 y6)⟩ :: ⟨_, true, .raw (.int .i64 (y6 + (1 : Int)))⟩ :: ⟨_, true, .raw (.int .i64 (y6 + (1 : Int)))⟩ :: []) (tl := []) (by kernel_rfl) (by kernel_rfl) (by kernel_rfl) ?_ ?_
    ·exact
      Obls.p (fun R' w' hw hs hd => of_move ((hs 7 rfl).trans h7)) <|
      Obls.p (fun R' w' hw hs hd => by have a0 : R' 27 = .int .i64 y6 := hd.g 0 rfl; exact of_add a0 rfl e14) <|
      Obls.p (fun R' w' hw hs hd => by have a0 : R' 28 = .int .i64 (y6 + (1 : Int)) := hd.g 0 rfl; exact of_assign a0) <|
      Obls.nil
    intro R w hw hs hF'
    replace h0 := (hs 0 rfl).trans h0
    replace h1 := (hs 1 rfl).trans h1
    replace h5 := (hs 5 rfl).trans h5
    replace h7 := (hs 7 rfl).trans h7
    have h6 : R 6 = .int .i64 (y6 + (1 : Int)) := hF' 2 _ _ rfl rfl rfl
    replace f_v0 := f_v0.fr hw
    replace hO := hO.fr hw
    replace hA := hA.fr hw.size
    replace hF := hF.trans hw
    clear hs hF' hw
    refine seqR_nil ?_
    obtain ⟨e15, hr⟩ := ck_some hr
    refine HT.text (l := ⟨_, true, .raw (.int .i64 y6)⟩ :: ⟨_, true, .raw (.int .i64 (y6 + (1 : Int)))⟩ :: ⟨_, true, .raw (.int .i64 (y6 + (1 : Int)))⟩ :: []) (tl := []) (by kernel_rfl) (by kernel_rfl) (by kernel_rfl) ?_ ?_
    ·exact
      Obls.p (fun R' w' hw hs hd => of_move ((hs 7 rfl).trans h7)) <|
      Obls.p (fun R' w' hw hs hd => by have a0 : R' 13 = .int .i64 y6 := hd.g 0 rfl; exact of_add a0 rfl e15) <|
      Obls.p (fun R' w' hw hs hd => by have a0 : R' 14 = .int .i64 (y6 + (1 : Int)) := hd.g 0 rfl; exact of_assign a0) <|
      Obls.nil
    intro R w hw hs hF'
    replace h0 := (hs 0 rfl).trans h0
    replace h1 := (hs 1 rfl).trans h1
    replace h5 := (hs 5 rfl).trans h5
    replace h6 := (hs 6 rfl).trans h6
    have h7 : R 7 = .int .i64 (y6 + (1 : Int)) := hF' 2 _ _ rfl rfl rfl
    replace f_v0 := f_v0.fr hw
    replace hO := hO.fr hw
    replace hA := hA.fr hw.size
    replace hF := hF.trans hw
    clear hs hF' hw
    refine seqR_nil ?_
    exact Exists.intro k (And.intro (Nat.lt_succ_self k) ⟨_, _, _, _, u13, hr, hA, hF, hAA, hO, h0, h1, h5, h6, h7, f_v0⟩)
   ·have hr := cnd_f c10 hr
    refine HT.skip ?_
    obtain ⟨e16, hr⟩ := ck_some hr
    refine HT.text (l := ⟨_, true, .raw (.int .i64 y6)⟩ :: ⟨_, true, .raw (.int .i64 (y6 + (1 : Int)))⟩ :: ⟨_, true, .raw (.int .i64 (y6 + (1 : Int)))⟩ :: []) (tl := []) (by kernel_rfl) (by kernel_rfl) (by kernel_rfl) ?_ ?_
    ·exact
      Obls.p (fun R' w' hw hs hd => of_move ((hs 7 rfl).trans h7)) <|
      Obls.p (fun R' w' hw hs hd => by have a0 : R' 13 = .int .i64 y6 := hd.g 0 rfl; exact of_add a0 rfl e16) <|
      Obls.p (fun R' w' hw hs hd => by have a0 : R' 14 = .int .i64 (y6 + (1 : Int)) := hd.g 0 rfl; exact of_assign a0) <|
      Obls.nil
    intro R w hw hs hF'
    replace h0 := (hs 0 rfl).trans h0
    replace h1 := (hs 1 rfl).trans h1
    replace h5 := (hs 5 rfl).trans h5
    replace h6 := (hs 6 rfl).trans h6
    have h7 : R 7 = .int .i64 (y6 + (1 : Int)) := hF' 2 _ _ rfl rfl rfl
    replace f_v0 := f_v0.fr hw
    replace hO := hO.fr hw
    replace hA := hA.fr hw.size
    replace hF := hF.trans hw
    clear hs hF' hw
    refine seqR_nil ?_
    exact Exists.intro k (And.intro (Nat.lt_succ_self k) ⟨_, _, _, _, ul_u1, hr, hA, hF, hAA, hO, h0, h1, h5, h6, h7, f_v0⟩)
  ·have hr := cnd_f c8 hr
   refine HT.exit ?_
   obtain rfl := Option.some.inj hr
   exact Exists.intro _ ⟨_, ul_u1, rfl, hA, hF, hAA, hO, h0, h5, h6, f_v0⟩
 rintro R w ⟨A, s4, uo_u1, es, hA, hF, hAA, hO, h0, h5, h6, f_v0⟩
 obtain rfl := es.symm
 refine HT.seq ?_
 obtain ⟨e17, hr⟩ := ck_some hr
 obtain ⟨e18, hr⟩ := ck_some hr
 refine HT.textR [ob uo_u1 (.vec w0.heap.size 9 eStr s4.2)] (⟨_, true, [], none, true, fun A => .raw uo_u1⟩ :: ⟨_, true, [], none, true, fun A => .raw v0⟩ :: ⟨_, true, [], none, true, fun A => .raw (.int .i64 s4.1)⟩ :: ⟨_, true, [], none, true, fun A => .rep eStr A (subL p0 s4.1 (p0.length : Int))⟩ :: ⟨_, true, [], none, true, fun A => .rep (eSl eStr) A ([(subL p0 s4.1 (p0.length : Int))] : List (List UInt8))⟩ :: ⟨_, true, [0], some (.vec w0.heap.size 9 eStr (s4.2 ++ ([(subL p0 s4.1 (p0.length : Int))] : List (List UInt8)))), true, fun A => .any⟩ :: ⟨_, true, [6], some (.vec w0.heap.size 9 eStr (s4.2 ++ ([(subL p0 s4.1 (p0.length : Int))] : List (List UInt8)))), true, fun A => .any⟩ :: []) (by kernel_rfl) (by kernel_rfl) (Wf.mk' (by kernel_rfl) (UAll.cons ust_raw (UAll.cons ust_raw (UAll.cons ust_raw (UAll.cons ust_rep (UAll.cons ust_rep (UAll.cons ust_any (UAll.cons ust_any (UAll.nil)))))))) (by kernel_rfl) (by kernel_rfl)) hO hA ?_ ?_
 ·exact
   OblsR.p (fun A' R' w' ho hd => of_move ((ho.old 5 rfl).trans h5)) <|
   OblsR.p (fun A' R' w' ho hd => of_move ((ho.old 0 rfl).trans h0)) <|
   OblsR.p (fun A' R' w' ho hd => of_move ((ho.old 6 rfl).trans h6)) <|
   OblsR.p (fun A' R' w' ho hd => by have a0 : R' 30 = v0 := hd.g 0 rfl; have a1 : R' 31 = .int .i64 s4.1 := hd.g 1 rfl; have ra0 := (f_v0.stp ho.stp).eq a0; exact of_slice_str_lo ra0 a1 Tryd.underlying9  e17) <|
   OblsR.p (fun A' R' w' ho hd => by have a0 : Rep eStr A' w' (R' 32) (subL p0 s4.1 (p0.length : Int)) := hd.g 0 rfl; exact of_build [_] (E := eStr) ⟨a0, trivial⟩ Tryd.underlying35 Tryd.sizeOf9 Tryd.zeroValue9 rfl rfl rfl ho.av) <|
   OblsR.cons (OblR.took 0 _ _ rfl rfl rfl rfl rfl fun A' R' w' ho hd u hok hav hin hop hds => by have a0 : R' 29 = uo_u1 := hd.g 0 rfl; have a1 : Rep (eSl eStr) A' w' (R' 33) ([(subL p0 s4.1 (p0.length : Int))] : List (List UInt8)) := hd.g 1 rfl; exact took_append (a0.trans (hin _ rfl).symm) hok hav (Nat.le_trans hF.size ho.ch.size) a1 Tryd.underlying35 el_9 e18) <|
   OblsR.cons (OblR.took 6 _ _ rfl rfl rfl rfl rfl fun A' R' w' ho hd u hok hav hin hop hds => by exact took_assign (hop _ _ rfl rfl rfl rfl).symm hok hav) <|
   OblsR.nil
 intro done ρ σ A R w hdn hI
 obtain ⟨u19, e_u19⟩ : ∃ u, ρ 7 = u := ⟨_, rfl⟩
 have h4 : R 4 = u19 := (hI.opvR hdn 7 6 rfl rfl rfl rfl rfl).symm.trans e_u19
 replace hAA := hI.low' hAA hA0 (hO.ge (⟨rfl, trivial⟩))
 replace hF : Fr w0 w := hF.tr hI.ch (hO.ge (⟨rfl, trivial⟩))
 replace hO : IniOK [ob u19 (.vec w0.heap.size 9 eStr (s4.2 ++ ([(subL p0 s4.1 (p0.length : Int))] : List (List UInt8))))] A w := hI.left hdn [(7, ob u19 (.vec w0.heap.size 9 eStr (s4.2 ++ ([(subL p0 s4.1 (p0.length : Int))] : List (List UInt8)))))] ⟨rfl, rfl, e_u19, rfl, rfl, trivial⟩
 replace hA := hI.avok
 clear hI
 refine HT.ret ?_
 obtain rfl := Option.some.inj hr
 exact ⟨.inr rfl, [R 4], ⟨rfl, trivial⟩, (own_post (hO.ok 0 _ rfl) hAA h4), hF⟩
theorem M_spec_l2Cut_okR {fu : Nat} {A0 : Av} {p0 : List UInt8} {p1 : Int} {r : List (List UInt8)} (hr : M_spec_l2Cut fu p0 p1 = some r) {w : World} {v0 : Value} {v1 : Value} (hA : AvOK A0 w) (h0 : Rep eStr A0 w v0 p0) (h1 : v1 = .int .u8 p1) :
  Calls Tryd.prog 15 #[v0, v1] w fun e w' => ∃ v, e = .returned v ∧ (Rep (eSl eStr) A0 w' v r ∧ Fr w w') := by
 refine Calls.mono (M_spec_l2Cut_ok hr hA h0 h1) ?_
 rintro e w' ⟨v, he, hv, hf⟩
 exact ⟨v, he, vec_rep hv (fun b o h => .inl h) hA, hf⟩
def M_spec_FormatInt_L0 (fu : Nat) : Nat → Int → (List UInt8) → Option (List UInt8)
 | 0, _, _ => none
 | k + 1, y7, y8 =>
  bif (y7 != (0 : Int)) then (
   ck ((10 : Int) != 0) <|
   bif (decide ((y7.tmod (10 : Int)) < (0 : Int))) then (
    ck (i64B (0 - (y7.tmod (10 : Int)))) <|
    ck (i64B ((48 : Int) + (0 - (y7.tmod (10 : Int))))) <|
    ck (lenOK ((strB ([(IntKind.u8.wrap ((48 : Int) + (0 - (y7.tmod (10 : Int)))))] : List Int)) ++ y8).length) <|
    ck ((10 : Int) != 0) <|
    ck (i64B (y7.tdiv (10 : Int))) <|
    M_spec_FormatInt_L0 fu k (y7.tdiv (10 : Int)) ((strB ([(IntKind.u8.wrap ((48 : Int) + (0 - (y7.tmod (10 : Int)))))] : List Int)) ++ y8)
   ) else (
    ck (i64B ((48 : Int) + (y7.tmod (10 : Int)))) <|
    ck (lenOK ((strB ([(IntKind.u8.wrap ((48 : Int) + (y7.tmod (10 : Int))))] : List Int)) ++ y8).length) <|
    ck ((10 : Int) != 0) <|
    ck (i64B (y7.tdiv (10 : Int))) <|
    M_spec_FormatInt_L0 fu k (y7.tdiv (10 : Int)) ((strB ([(IntKind.u8.wrap ((48 : Int) + (y7.tmod (10 : Int))))] : List Int)) ++ y8)
   )
  ) else (
   some y8
  )
def M_spec_FormatInt (fu : Nat) (p0 : Int) : Option (List UInt8) :=
 bif (p0 == (0 : Int)) then (
  some ([48] : List UInt8)
 ) else (
  cl true (M_spec_FormatInt_L0 fu fu p0 ([] : List UInt8)) fun s6 =>
  bif (decide (p0 < (0 : Int))) then (
   ck (lenOK (([45] : List UInt8) ++ s6).length) <|
   some (([45] : List UInt8) ++ s6)
  ) else (
   some s6
  )
 )
theorem M_spec_FormatInt_ok {fu : Nat} {A : Av} {p0 : Int} {r : List UInt8} (hr : M_spec_FormatInt fu p0 = some r) {w : World} {v0 : Value} (hA : AvOK A w) (h0 : v0 = .int .i64 p0) :
  Calls Tryd.prog 29 #[v0] w fun e w' => ∃ v, e = .returned v ∧ (Rep eStr A w' v r ∧ Fr w w') := by
 unfold M_spec_FormatInt at hr
 obtain ⟨w0, hw0⟩ : ∃ w0, w0 = w := ⟨_, rfl⟩
 have hF : Fr w0 w := hw0 ▸ Fr.refl _
 rw [show Fr w = Fr w0 from hw0 ▸ rfl]
 clear hw0
 refine calls_of_HT2 [.tmp 2] Tryd.func29 Tryd.ntmps29 (by decide) rfl rfl (Nat.le_of_ble_eq_true rfl) ?_
 intro R hR
 replace h0 : R 0 = .int .i64 p0 := (hR 0 _ rfl).trans h0
 clear hR
 refine HT.seq ?_
 refine HT.text (l := ⟨_, true, .rep eStr A ([] : List UInt8)⟩ :: []) (tl := []) (by kernel_rfl) (by kernel_rfl) (by kernel_rfl) ?_ ?_
 ·exact
   Obls.p (fun R' w' hw hs hd => of_assign ⟨_, rfl, ⟨_, rfl, rfl, by decide⟩⟩) <|
   Obls.nil
 intro R w hw hs hF'
 replace h0 := (hs 0 rfl).trans h0
 replace hA := hA.fr hw.size
 replace hF := hF.trans hw
 clear hs hF' hw
 refine seqR_nil ?_
 refine HT.seq ?_
 refine HT.seq ?_
 refine HT.text (l := ⟨_, true, .raw (.int .i64 p0)⟩ :: ⟨_, true, .raw (.bool (p0 == (0 : Int)))⟩ :: []) (tl := []) (by kernel_rfl) (by kernel_rfl) (by kernel_rfl) ?_ ?_
 ·exact
   Obls.p (fun R' w' hw hs hd => of_move ((hs 0 rfl).trans h0)) <|
   Obls.p (fun R' w' hw hs hd => by have a0 : R' 6 = .int .i64 p0 := hd.g 0 rfl; exact of_eql a0 rfl) <|
   Obls.nil
 intro R w hw hs hF'
 replace h0 := (hs 0 rfl).trans h0
 have h7 : R 7 = .bool (p0 == (0 : Int)) := hF' 1 _ _ rfl rfl rfl
 replace hA := hA.fr hw.size
 replace hF := hF.trans hw
 clear hs hF' hw
 refine seqR_nil ?_
 refine HT.cond (p0 == (0 : Int)) h7 (fun c1 => ?_) (fun c1 => ?_)
 ·have hr := cnd_t c1 hr
  refine HT.seq ?_
  refine HT.text (l := ⟨_, true, .rep eStr A ([48] : List UInt8)⟩ :: []) (tl := []) (by kernel_rfl) (by kernel_rfl) (by kernel_rfl) ?_ ?_
  ·exact
    Obls.p (fun R' w' hw hs hd => of_assign ⟨_, rfl, ⟨_, rfl, rfl, by decide⟩⟩) <|
    Obls.nil
  intro R w hw hs hF'
  obtain ⟨u2, h2, f_u2⟩ : ∃ u, R 2 = u ∧ Rep eStr A w u ([48] : List UInt8) := ⟨_, rfl, hF' 0 _ _ rfl rfl rfl⟩
  replace hA := hA.fr hw.size
  replace hF := hF.trans hw
  clear hs hF' hw
  refine seqR_nil ?_
  refine HT.ret ?_
  obtain rfl := Option.some.inj hr
  exact ⟨.inr rfl, [R 2], ⟨rfl, trivial⟩, (f_u2.eq h2), hF⟩
 ·have hr := cnd_f c1 hr
  refine HT.skip ?_
  refine HT.seq ?_
  refine HT.text (l := ⟨_, true, .rep eStr A ([] : List UInt8)⟩ :: []) (tl := []) (by kernel_rfl) (by kernel_rfl) (by kernel_rfl) ?_ ?_
  ·exact
    Obls.p (fun R' w' hw hs hd => of_assign ⟨_, rfl, ⟨_, rfl, rfl, by decide⟩⟩) <|
    Obls.nil
  intro R w hw hs hF'
  replace h0 := (hs 0 rfl).trans h0
  obtain ⟨u3, h3, f_u3⟩ : ∃ u, R 3 = u ∧ Rep eStr A w u ([] : List UInt8) := ⟨_, rfl, hF' 0 _ _ rfl rfl rfl⟩
  replace hA := hA.fr hw.size
  replace hF := hF.trans hw
  clear hs hF' hw
  refine seqR_nil ?_
  refine HT.seq ?_
  refine HT.text (l := ⟨_, true, .raw (.int .i64 p0)⟩ :: ⟨_, true, .raw (.bool (decide (p0 < (0 : Int))))⟩ :: ⟨_, true, .raw (.bool (decide (p0 < (0 : Int))))⟩ :: []) (tl := []) (by kernel_rfl) (by kernel_rfl) (by kernel_rfl) ?_ ?_
  ·exact
    Obls.p (fun R' w' hw hs hd => of_move ((hs 0 rfl).trans h0)) <|
    Obls.p (fun R' w' hw hs hd => by have a0 : R' 8 = .int .i64 p0 := hd.g 0 rfl; exact of_lss a0 rfl) <|
    Obls.p (fun R' w' hw hs hd => by have a0 : R' 9 = .bool (decide (p0 < (0 : Int))) := hd.g 0 rfl; exact of_assign a0) <|
    Obls.nil
  intro R w hw hs hF'
  replace h0 := (hs 0 rfl).trans h0
  replace h3 := (hs 3 rfl).trans h3
  have h4 : R 4 = .bool (decide (p0 < (0 : Int))) := hF' 2 _ _ rfl rfl rfl
  replace f_u3 := f_u3.fr hw
  replace hA := hA.fr hw.size
  replace hF := hF.trans hw
  clear hs hF' hw
  refine seqR_nil ?_
  obtain ⟨rl4, q5, hr⟩ := cl_some hr
  replace q5 := q5 rfl
  refine HT.cut (fun R w => ∃ (s6 : (List UInt8)) (wo_3 : Value), rl4 = s6 ∧ AvOK A w ∧ Fr w0 w ∧ R 3 = wo_3 ∧ R 4 = .bool (decide (p0 < (0 : Int))) ∧ Rep eStr A w wo_3 s6) ?_ ?_
  ·refine HT.block ?_
   refine HT.loop (fun k R w => ∃ (y7 : Int) (y8 : List UInt8) (wl_3 : Value), M_spec_FormatInt_L0 fu k y7 y8 = some rl4 ∧ AvOK A w ∧ Fr w0 w ∧ R 0 = .int .i64 y7 ∧ R 3 = wl_3 ∧ R 4 = .bool (decide (p0 < (0 : Int))) ∧ Rep eStr A w wl_3 y8) fu ⟨_, _, u3, q5, hA, hF, h0, h3, h4, f_u3⟩ ?_
   have hr0 := hr; clear hr q5
   rintro k R w ⟨y7, y8, wl_3, hr, hA, hF, h0, h3, h4, f_wl_3⟩
   rcases k with _ | k
   ·cases (show none = some _ from hr)
   rw [M_spec_FormatInt_L0] at hr
   refine HT.seq ?_
   refine HT.seq ?_
   refine HT.text (l := ⟨_, true, .raw (.int .i64 y7)⟩ :: ⟨_, true, .raw (.bool (y7 != (0 : Int)))⟩ :: []) (tl := []) (by kernel_rfl) (by kernel_rfl) (by kernel_rfl) ?_ ?_
   ·exact
     Obls.p (fun R' w' hw hs hd => of_move ((hs 0 rfl).trans h0)) <|
     Obls.p (fun R' w' hw hs hd => by have a0 : R' 10 = .int .i64 y7 := hd.g 0 rfl; exact of_neq a0 rfl) <|
     Obls.nil
   intro R w hw hs hF'
   replace h0 := (hs 0 rfl).trans h0
   replace h3 := (hs 3 rfl).trans h3
   replace h4 := (hs 4 rfl).trans h4
   have h11 : R 11 = .bool (y7 != (0 : Int)) := hF' 1 _ _ rfl rfl rfl
   replace f_wl_3 := f_wl_3.fr hw
   replace hA := hA.fr hw.size
   replace hF := hF.trans hw
   clear hs hF' hw
   refine seqR_nil ?_
   refine HT.cond (y7 != (0 : Int)) h11 (fun c9 => ?_) (fun c9 => ?_)
   ·have hr := cnd_t c9 hr
    refine HT.skip ?_
    refine HT.block ?_
    refine HT.seq ?_
    obtain ⟨e10, hr⟩ := ck_some hr
    refine HT.text (l := ⟨_, true, .raw (.int .i64 y7)⟩ :: ⟨_, true, .raw (.int .i64 (y7.tmod (10 : Int)))⟩ :: ⟨_, true, .raw (.int .i64 (y7.tmod (10 : Int)))⟩ :: []) (tl := []) (by kernel_rfl) (by kernel_rfl) (by kernel_rfl) ?_ ?_
    ·exact
      Obls.p (fun R' w' hw hs hd => of_move ((hs 0 rfl).trans h0)) <|
      Obls.p (fun R' w' hw hs hd => by have a0 : R' 12 = .int .i64 y7 := hd.g 0 rfl; exact of_rem a0 rfl e10) <|
      Obls.p (fun R' w' hw hs hd => by have a0 : R' 13 = .int .i64 (y7.tmod (10 : Int)) := hd.g 0 rfl; exact of_assign a0) <|
      Obls.nil
    intro R w hw hs hF'
    replace h0 := (hs 0 rfl).trans h0
    replace h3 := (hs 3 rfl).trans h3
    replace h4 := (hs 4 rfl).trans h4
    have h5 : R 5 = .int .i64 (y7.tmod (10 : Int)) := hF' 2 _ _ rfl rfl rfl
    replace f_wl_3 := f_wl_3.fr hw
    replace hA := hA.fr hw.size
    replace hF := hF.trans hw
    clear hs hF' hw
    refine seqR_nil ?_
    refine HT.seq ?_
    refine HT.seq ?_
    refine HT.text (l := ⟨_, true, .raw (.int .i64 (y7.tmod (10 : Int)))⟩ :: ⟨_, true, .raw (.bool (decide ((y7.tmod (10 : Int)) < (0 : Int))))⟩ :: []) (tl := []) (by kernel_rfl) (by kernel_rfl) (by kernel_rfl) ?_ ?_
    ·exact
      Obls.p (fun R' w' hw hs hd => of_move ((hs 5 rfl).trans h5)) <|
      Obls.p (fun R' w' hw hs hd => by have a0 : R' 14 = .int .i64 (y7.tmod (10 : Int)) := hd.g 0 rfl; exact of_lss a0 rfl) <|
      Obls.nil
    intro R w hw hs hF'
    replace h0 := (hs 0 rfl).trans h0
    replace h3 := (hs 3 rfl).trans h3
    replace h4 := (hs 4 rfl).trans h4
    replace h5 := (hs 5 rfl).trans h5
    have h15 : R 15 = .bool (decide ((y7.tmod (10 : Int)) < (0 : Int))) := hF' 1 _ _ rfl rfl rfl
    replace f_wl_3 := f_wl_3.fr hw
    replace hA := hA.fr hw.size
    replace hF := hF.trans hw
    clear hs hF' hw
    refine seqR_nil ?_
    refine HT.cond (decide ((y7.tmod (10 : Int)) < (0 : Int))) h15 (fun c11 => ?_) (fun c11 => ?_)
    ·have hr := cnd_t c11 hr
     obtain ⟨e12, hr⟩ := ck_some hr
     refine HT.text (l := ⟨_, true, .raw (.int .i64 (y7.tmod (10 : Int)))⟩ :: ⟨_, true, .raw (.int .i64 (0 - (y7.tmod (10 : Int))))⟩ :: ⟨_, true, .raw (.int .i64 (0 - (y7.tmod (10 : Int))))⟩ :: []) (tl := []) (by kernel_rfl) (by kernel_rfl) (by kernel_rfl) ?_ ?_
     ·exact
       Obls.p (fun R' w' hw hs hd => of_move ((hs 5 rfl).trans h5)) <|
       Obls.p (fun R' w' hw hs hd => by have a0 : R' 16 = .int .i64 (y7.tmod (10 : Int)) := hd.g 0 rfl; exact of_neg a0 e12) <|
       Obls.p (fun R' w' hw hs hd => by have a0 : R' 17 = .int .i64 (0 - (y7.tmod (10 : Int))) := hd.g 0 rfl; exact of_assign a0) <|
       Obls.nil
     intro R w hw hs hF'
     replace h0 := (hs 0 rfl).trans h0
     replace h3 := (hs 3 rfl).trans h3
     replace h4 := (hs 4 rfl).trans h4
     have h5 : R 5 = .int .i64 (0 - (y7.tmod (10 : Int))) := hF' 2 _ _ rfl rfl rfl
     replace f_wl_3 := f_wl_3.fr hw
     replace hA := hA.fr hw.size
     replace hF := hF.trans hw
     clear hs hF' hw
     refine seqR_nil ?_
     refine HT.seq ?_
     obtain ⟨e13, hr⟩ := ck_some hr
     obtain ⟨e14, hr⟩ := ck_some hr
     refine HT.text (l := ⟨_, true, .raw (.int .i64 (0 - (y7.tmod (10 : Int))))⟩ :: ⟨_, true, .raw (.int .i64 ((48 : Int) + (0 - (y7.tmod (10 : Int)))))⟩ :: ⟨_, true, .raw (.int .u8 (IntKind.u8.wrap ((48 : Int) + (0 - (y7.tmod (10 : Int))))))⟩ :: ⟨_, true, .rep (eSl (eInt .u8)) A ([(IntKind.u8.wrap ((48 : Int) + (0 - (y7.tmod (10 : Int)))))] : List Int)⟩ :: ⟨_, true, .rep eStr A (strB ([(IntKind.u8.wrap ((48 : Int) + (0 - (y7.tmod (10 : Int)))))] : List Int))⟩ :: ⟨_, true, .raw wl_3⟩ :: ⟨_, true, .rep eStr A ((strB ([(IntKind.u8.wrap ((48 : Int) + (0 - (y7.tmod (10 : Int)))))] : List Int)) ++ y8)⟩ :: ⟨_, true, .rep eStr A ((strB ([(IntKind.u8.wrap ((48 : Int) + (0 - (y7.tmod (10 : Int)))))] : List Int)) ++ y8)⟩ :: []) (tl := []) (by kernel_rfl) (by kernel_rfl) (by kernel_rfl) ?_ ?_
     ·exact
       Obls.p (fun R' w' hw hs hd => of_move ((hs 5 rfl).trans h5)) <|
       Obls.p (fun R' w' hw hs hd => by have a1 : R' 18 = .int .i64 (0 - (y7.tmod (10 : Int))) := hd.g 0 rfl; exact of_add rfl a1 e13) <|
       Obls.p (fun R' w' hw hs hd => by have a0 : R' 19 = .int .i64 ((48 : Int) + (0 - (y7.tmod (10 : Int)))) := hd.g 0 rfl; exact of_conv_int a0 Tryd.underlying3 Tryd.underlying5) <|
       Obls.p (fun R' w' hw hs hd => by have a0 : R' 20 = .int .u8 (IntKind.u8.wrap ((48 : Int) + (0 - (y7.tmod (10 : Int))))) := hd.g 0 rfl; exact of_build [_] (E := eInt .u8) ⟨(rep_int.eq a0), trivial⟩ Tryd.underlying69 Tryd.sizeOf5 Tryd.zeroValue5 rfl rfl rfl (hA.fr hw.size)) <|
       Obls.p (fun R' w' hw hs hd => by have a0 : Rep (eSl (eInt .u8)) A w' (R' 21) ([(IntKind.u8.wrap ((48 : Int) + (0 - (y7.tmod (10 : Int)))))] : List Int) := hd.g 0 rfl; exact of_conv_bytes a0 Tryd.underlying69 Tryd.underlying5 Tryd.underlying9) <|
       Obls.p (fun R' w' hw hs hd => of_move ((hs 3 rfl).trans h3)) <|
       Obls.p (fun R' w' hw hs hd => by have a0 : Rep eStr A w' (R' 22) (strB ([(IntKind.u8.wrap ((48 : Int) + (0 - (y7.tmod (10 : Int)))))] : List Int)) := hd.g 0 rfl; have a1 : R' 23 = wl_3 := hd.g 1 rfl; have ra1 := (f_wl_3.fr hw).eq a1; exact of_cat a0 ra1 e14) <|
       Obls.p (fun R' w' hw hs hd => by have a0 : Rep eStr A w' (R' 24) ((strB ([(IntKind.u8.wrap ((48 : Int) + (0 - (y7.tmod (10 : Int)))))] : List Int)) ++ y8) := hd.g 0 rfl; exact of_assign a0) <|
       Obls.nil
     intro R w hw hs hF'
     replace h0 := (hs 0 rfl).trans h0
     replace h4 := (hs 4 rfl).trans h4
     obtain ⟨u15, h3, f_u15⟩ : ∃ u, R 3 = u ∧ Rep eStr A w u ((strB ([(IntKind.u8.wrap ((48 : Int) + (0 - (y7.tmod (10 : Int)))))] : List Int)) ++ y8) := ⟨_, rfl, hF' 7 _ _ rfl rfl rfl⟩
     replace hA := hA.fr hw.size
     replace hF := hF.trans hw
     clear hs hF' hw
     refine seqR_nil ?_
     obtain ⟨e16, hr⟩ := ck_some hr
     obtain ⟨e17, hr⟩ := ck_some hr
     refine HT.text (l := ⟨_, true, .raw (.int .i64 y7)⟩ :: ⟨_, true, .raw (.int .i64 (y7.tdiv (10 : Int)))⟩ :: ⟨_, true, .raw (.int .i64 (y7.tdiv (10 : Int)))⟩ :: []) (tl := []) (by kernel_rfl) (by kernel_rfl) (by kernel_rfl) ?_ ?_
     ·exact
       Obls.p (fun R' w' hw hs hd => of_move ((hs 0 rfl).trans h0)) <|
       Obls.p (fun R' w' hw hs hd => by have a0 : R' 25 = .int .i64 y7 := hd.g 0 rfl; exact of_quo a0 rfl e16 e17) <|
       Obls.p (fun R' w' hw hs hd => by have a0 : R' 26 = .int .i64 (y7.tdiv (10 : Int)) := hd.g 0 rfl; exact of_assign a0) <|
       Obls.nil
     intro R w hw hs hF'
     replace h3 := (hs 3 rfl).trans h3
     replace h4 := (hs 4 rfl).trans h4
     have h0 : R 0 = .int .i64 (y7.tdiv (10 : Int)) := hF' 2 _ _ rfl rfl rfl
     replace f_u15 := f_u15.fr hw
     replace hA := hA.fr hw.size
     replace hF := hF.trans hw
     clear hs hF' hw
     refine seqR_nil ?_
     exact Exists.intro k (And.intro (Nat.lt_succ_self k) ⟨_, _, u15, hr, hA, hF, h0, h3, h4, f_u15⟩)
    ·have hr := cnd_f c11 hr
     refine HT.skip ?_
     refine HT.seq ?_
     obtain ⟨e18, hr⟩ := ck_some hr
     obtain ⟨e19, hr⟩ := ck_some hr
     refine HT.text (l := ⟨_, true, .raw (.int .i64 (y7.tmod (10 : Int)))⟩ :: ⟨_, true, .raw (.int .i64 ((48 : Int) + (y7.tmod (10 : Int))))⟩ :: ⟨_, true, .raw (.int .u8 (IntKind.u8.wrap ((48 : Int) + (y7.tmod (10 : Int)))))⟩ :: ⟨_, true, .rep (eSl (eInt .u8)) A ([(IntKind.u8.wrap ((48 : Int) + (y7.tmod (10 : Int))))] : List Int)⟩ :: ⟨_, true, .rep eStr A (strB ([(IntKind.u8.wrap ((48 : Int) + (y7.tmod (10 : Int))))] : List Int))⟩ :: ⟨_, true, .raw wl_3⟩ :: ⟨_, true, .rep eStr A ((strB ([(IntKind.u8.wrap ((48 : Int) + (y7.tmod (10 : Int))))] : List Int)) ++ y8)⟩ :: ⟨_, true, .rep eStr A ((strB ([(IntKind.u8.wrap ((48 : Int) + (y7.tmod (10 : Int))))] : List Int)) ++ y8)⟩ :: []) (tl := []) (by kernel_rfl) (by kernel_rfl) (by kernel_rfl) ?_ ?_
     ·exact
       Obls.p (fun R' w' hw hs hd => of_move ((hs 5 rfl).trans h5)) <|
       Obls.p (fun R' w' hw hs hd => by have a1 : R' 18 = .int .i64 (y7.tmod (10 : Int)) := hd.g 0 rfl; exact of_add rfl a1 e18) <|
       Obls.p (fun R' w' hw hs hd => by have a0 : R' 19 = .int .i64 ((48 : Int) + (y7.tmod (10 : Int))) := hd.g 0 rfl; exact of_conv_int a0 Tryd.underlying3 Tryd.underlying5) <|
       Obls.p (fun R' w' hw hs hd => by have a0 : R' 20 = .int .u8 (IntKind.u8.wrap ((48 : Int) + (y7.tmod (10 : Int)))) := hd.g 0 rfl; exact of_build [_] (E := eInt .u8) ⟨(rep_int.eq a0), trivial⟩ Tryd.underlying69 Tryd.sizeOf5 Tryd.zeroValue5 rfl rfl rfl (hA.fr hw.size)) <|
       Obls.p (fun R' w' hw hs hd => by have a0 : Rep (eSl (eInt .u8)) A w' (R' 21) ([(IntKind.u8.wrap ((48 : Int) + (y7.tmod (10 : Int))))] : List Int) := hd.g 0 rfl; exact of_conv_bytes a0 Tryd.underlying69 Tryd.underlying5 Tryd.underlying9) <|
       Obls.p (fun R' w' hw hs hd => of_move ((hs 3 rfl).trans h3)) <|
       Obls.p (fun R' w' hw hs hd => by have a0 : Rep eStr A w' (R' 22) (strB ([(IntKind.u8.wrap ((48 : Int) + (y7.tmod (10 : Int))))] : List Int)) := hd.g 0 rfl; have a1 : R' 23 = wl_3 := hd.g 1 rfl; have ra1 := (f_wl_3.fr hw).eq a1; exact of_cat a0 ra1 e19) <|
       Obls.p (fun R' w' hw hs hd => by have a0 : Rep eStr A w' (R' 24) ((strB ([(IntKind.u8.wrap ((48 : Int) + (y7.tmod (10 : Int))))] : List Int)) ++ y8) := hd.g 0 rfl; exact of_assign a0) <|
       Obls.nil
     intro R w hw hs hF'
     replace h0 := (hs 0 rfl).trans h0
     replace h4 := (hs 4 rfl).trans h4
     obtain ⟨u20, h3, f_u20⟩ : ∃ u, R 3 = u ∧ Rep eStr A w u ((strB ([(IntKind.u8.wrap ((48 : Int) + (y7.tmod (10 : Int))))] : List Int)) ++ y8) := ⟨_, rfl, hF' 7 _ _ rfl rfl rfl⟩
     replace hA := hA.fr hw.size
     replace hF := hF.trans hw
     clear hs hF' hw
     refine seqR_nil ?_
     obtain ⟨e21, hr⟩ := ck_some hr
     obtain ⟨e22, hr⟩ := ck_some hr
     refine HT.text (l := ⟨_, true, .raw (.int .i64 y7)⟩ :: ⟨_, true, .raw (.int .i64 (y7.tdiv (10 : Int)))⟩ :: ⟨_, true, .raw (.int .i64 (y7.tdiv (10 : Int)))⟩ :: []) (tl := []) (by kernel_rfl) (by kernel_rfl) (by kernel_rfl) ?_ ?_
     ·exact
       Obls.p (fun R' w' hw hs hd => of_move ((hs 0 rfl).trans h0)) <|
       Obls.p (fun R' w' hw hs hd => by have a0 : R' 25 = .int .i64 y7 := hd.g 0 rfl; exact of_quo a0 rfl e21 e22) <|
       Obls.p (fun R' w' hw hs hd => by have a0 : R' 26 = .int .i64 (y7.tdiv (10 : Int)) := hd.g 0 rfl; exact of_assign a0) <|
       Obls.nil
     intro R w hw hs hF'
     replace h3 := (hs 3 rfl).trans h3
     replace h4 := (hs 4 rfl).trans h4
     have h0 : R 0 = .int .i64 (y7.tdiv (10 : Int)) := hF' 2 _ _ rfl rfl rfl
     replace f_u20 := f_u20.fr hw
     replace hA := hA.fr hw.size
     replace hF := hF.trans hw
     clear hs hF' hw
     refine seqR_nil ?_
     exact Exists.intro k (And.intro (Nat.lt_succ_self k) ⟨_, _, u20, hr, hA, hF, h0, h3, h4, f_u20⟩)
   ·have hr := cnd_f c9 hr
    refine HT.exit ?_
    obtain rfl := Option.some.inj hr
    exact Exists.intro _ ⟨wl_3, rfl, hA, hF, h3, h4, f_wl_3⟩
  rintro R w ⟨s6, wo_3, es, hA, hF, h3, h4, f_wo_3⟩
  obtain rfl := es.symm
  refine HT.seq ?_
  refine HT.seq ?_
  refine HT.text (l := ⟨_, true, .raw (.bool (decide (p0 < (0 : Int))))⟩ :: []) (tl := []) (by kernel_rfl) (by kernel_rfl) (by kernel_rfl) ?_ ?_
  ·exact
    Obls.p (fun R' w' hw hs hd => of_move ((hs 4 rfl).trans h4)) <|
    Obls.nil
  intro R w hw hs hF'
  replace h3 := (hs 3 rfl).trans h3
  have h27 : R 27 = .bool (decide (p0 < (0 : Int))) := hF' 0 _ _ rfl rfl rfl
  replace f_wo_3 := f_wo_3.fr hw
  replace hA := hA.fr hw.size
  replace hF := hF.trans hw
  clear hs hF' hw
  refine seqR_nil ?_
  refine HT.cond (decide (p0 < (0 : Int))) h27 (fun c23 => ?_) (fun c23 => ?_)
  ·have hr := cnd_t c23 hr
   refine HT.seq ?_
   obtain ⟨e24, hr⟩ := ck_some hr
   refine HT.text (l := ⟨_, true, .raw wo_3⟩ :: ⟨_, true, .rep eStr A (([45] : List UInt8) ++ s6)⟩ :: ⟨_, true, .rep eStr A (([45] : List UInt8) ++ s6)⟩ :: []) (tl := []) (by kernel_rfl) (by kernel_rfl) (by kernel_rfl) ?_ ?_
   ·exact
     Obls.p (fun R' w' hw hs hd => of_move ((hs 3 rfl).trans h3)) <|
     Obls.p (fun R' w' hw hs hd => by have a1 : R' 28 = wo_3 := hd.g 0 rfl; have ra1 := (f_wo_3.fr hw).eq a1; exact of_cat ⟨_, rfl, ⟨_, rfl, rfl, by decide⟩⟩ ra1 e24) <|
     Obls.p (fun R' w' hw hs hd => by have a0 : Rep eStr A w' (R' 29) (([45] : List UInt8) ++ s6) := hd.g 0 rfl; exact of_assign a0) <|
     Obls.nil
   intro R w hw hs hF'
   obtain ⟨u25, h2, f_u25⟩ : ∃ u, R 2 = u ∧ Rep eStr A w u (([45] : List UInt8) ++ s6) := ⟨_, rfl, hF' 2 _ _ rfl rfl rfl⟩
   replace hA := hA.fr hw.size
   replace hF := hF.trans hw
   clear hs hF' hw
   refine seqR_nil ?_
   refine HT.ret ?_
   obtain rfl := Option.some.inj hr
   exact ⟨.inr rfl, [R 2], ⟨rfl, trivial⟩, (f_u25.eq h2), hF⟩
  ·have hr := cnd_f c23 hr
   refine HT.skip ?_
   refine HT.seq ?_
   refine HT.text (l := ⟨_, true, .raw wo_3⟩ :: ⟨_, true, .raw wo_3⟩ :: []) (tl := []) (by kernel_rfl) (by kernel_rfl) (by kernel_rfl) ?_ ?_
   ·exact
     Obls.p (fun R' w' hw hs hd => of_move ((hs 3 rfl).trans h3)) <|
     Obls.p (fun R' w' hw hs hd => by have a0 : R' 30 = wo_3 := hd.g 0 rfl; exact of_assign a0) <|
     Obls.nil
   intro R w hw hs hF'
   have h2 : R 2 = wo_3 := hF' 1 _ _ rfl rfl rfl
   replace f_wo_3 := f_wo_3.fr hw
   replace hA := hA.fr hw.size
   replace hF := hF.trans hw
   clear hs hF' hw
   refine seqR_nil ?_
   refine HT.ret ?_
   obtain rfl := Option.some.inj hr
   exact ⟨.inr rfl, [R 2], ⟨rfl, trivial⟩, (f_wo_3.eq h2), hF⟩
def M_spec_ParseInt_L0 (fu : Nat) (p0 : List UInt8) : Nat → Int → Int → Int → Option (Int × Int)
 | 0, _, _, _ => none
 | k + 1, y4, y5, y6 =>
  bd ((decide (y6 < (p0.length : Int))) && (decide (y6 < (11 : Int)))) fun x7 =>
  bif x7 then (
   ck (inR y6 p0.length) <|
   ck (!(true && ((decide ((48 : Int) ≤ (bAt p0 y6))) == true)) || inR y6 p0.length) <|
   bd ((decide ((48 : Int) ≤ (bAt p0 y6))) && (decide ((bAt p0 y6) ≤ (57 : Int)))) fun x12 =>
   bif x12 then (
    ck (i64B (y4 * (10 : Int))) <|
    ck (inR y6 p0.length) <|
    ck (i64B ((y4 * (10 : Int)) + (IntKind.i64.wrap (IntKind.u8.wrap ((bAt p0 y6) - (48 : Int)))))) <|
    ck (i64B (y5 + (1 : Int))) <|
    ck (i64B (y6 + (1 : Int))) <|
    M_spec_ParseInt_L0 fu p0 k ((y4 * (10 : Int)) + (IntKind.i64.wrap (IntKind.u8.wrap ((bAt p0 y6) - (48 : Int))))) (y5 + (1 : Int)) (y6 + (1 : Int))
   ) else (
    ck (i64B (y6 + (1 : Int))) <|
    M_spec_ParseInt_L0 fu p0 k y4 y5 (y6 + (1 : Int))
   )
  ) else (
   some (y4, y5)
  )
def M_spec_ParseInt (fu : Nat) (p0 : List UInt8) : Option (Int × Bool) :=
 cl true (M_spec_ParseInt_L0 fu p0 fu (0 : Int) (0 : Int) (0 : Int)) fun s3 =>
 ck (!(true && ((decide ((0 : Int) < (p0.length : Int))) == true)) || inR (0 : Int) p0.length) <|
 bd ((decide ((0 : Int) < (p0.length : Int))) && ((bAt p0 (0 : Int)) == (45 : Int))) fun x22 =>
 bif x22 then (
  ck (i64B (0 - s3.1)) <|
  bd ((decide ((9 : Int) < s3.2)) || (decide ((10 : Int) < (p0.length : Int)))) fun x26 =>
  cl (true && (x26 == false)) (M_spec_FormatInt fu (0 - s3.1)) fun x28 =>
  bd (x26 || (!(x28 == p0))) fun x30 =>
  bif x30 then (
   some ((0 : Int), false)
  ) else (
   some ((0 - s3.1), true)
  )
 ) else (
  bd ((decide ((9 : Int) < s3.2)) || (decide ((10 : Int) < (p0.length : Int)))) fun x33 =>
  cl (true && (x33 == false)) (M_spec_FormatInt fu s3.1) fun x35 =>
  bd (x33 || (!(x35 == p0))) fun x37 =>
  bif x37 then (
   some ((0 : Int), false)
  ) else (
   some (s3.1, true)
  )
 )
theorem M_spec_ParseInt_ok {fu : Nat} {A : Av} {p0 : List UInt8} {r : Int × Bool} (hr : M_spec_ParseInt fu p0 = some r) {w : World} {v0 : Value} (hA : AvOK A w) (h0 : Rep eStr A w v0 p0) :
  Calls Tryd.prog 16 #[v0] w fun e w' => ∃ v, e = .returned v ∧ ((∃ a b, v = .tuple #[a, b] ∧ a = .int .i64 r.1 ∧ b = .bool r.2) ∧ Fr w w') := by
 unfold M_spec_ParseInt at hr
 obtain ⟨w0, hw0⟩ : ∃ w0, w0 = w := ⟨_, rfl⟩
 have hF : Fr w0 w := hw0 ▸ Fr.refl _
 rw [show Fr w = Fr w0 from hw0 ▸ rfl]
 clear hw0
 refine calls_of_HT2 [.tmp 2, .tmp 3] Tryd.func16 Tryd.ntmps16 (by decide) rfl rfl (Nat.le_of_ble_eq_true rfl) ?_
 intro R hR
 have f_v0 := h0
 replace h0 : R 0 = v0 := hR 0 _ rfl
 clear hR
 refine HT.seq ?_
 refine HT.text (l := ⟨_, true, .raw (.int .i64 (0 : Int))⟩ :: ⟨_, true, .raw (.bool false)⟩ :: []) (tl := []) (by kernel_rfl) (by kernel_rfl) (by kernel_rfl) ?_ ?_
 ·exact
   Obls.p (fun R' w' hw hs hd => of_assign rfl) <|
   Obls.p (fun R' w' hw hs hd => of_assign rfl) <|
   Obls.nil
 intro R w hw hs hF'
 replace h0 := (hs 0 rfl).trans h0
 replace f_v0 := f_v0.fr hw
 replace hA := hA.fr hw.size
 replace hF := hF.trans hw
 clear hs hF' hw
 refine seqR_nil ?_
 refine HT.seq ?_
 refine HT.text (l := ⟨_, true, .raw (.int .i64 (0 : Int))⟩ :: []) (tl := []) (by kernel_rfl) (by kernel_rfl) (by kernel_rfl) ?_ ?_
 ·exact
   Obls.p (fun R' w' hw hs hd => of_assign rfl) <|
   Obls.nil
 intro R w hw hs hF'
 replace h0 := (hs 0 rfl).trans h0
 have h4 : R 4 = .int .i64 (0 : Int) := hF' 0 _ _ rfl rfl rfl
 replace f_v0 := f_v0.fr hw
 replace hA := hA.fr hw.size
 replace hF := hF.trans hw
 clear hs hF' hw
 refine seqR_nil ?_
 refine HT.seq ?_
 refine HT.text (l := ⟨_, true, .raw (.int .i64 (0 : Int))⟩ :: []) (tl := []) (by kernel_rfl) (by kernel_rfl) (by kernel_rfl) ?_ ?_
 ·exact
   Obls.p (fun R' w' hw hs hd => of_assign rfl) <|
   Obls.nil
 intro R w hw hs hF'
 replace h0 := (hs 0 rfl).trans h0
 replace h4 := (hs 4 rfl).trans h4
 have h5 : R 5 = .int .i64 (0 : Int) := hF' 0 _ _ rfl rfl rfl
 replace f_v0 := f_v0.fr hw
 replace hA := hA.fr hw.size
 replace hF := hF.trans hw
 clear hs hF' hw
 refine seqR_nil ?_
 refine HT.seq ?_
 refine HT.seq ?_
 refine HT.text (l := ⟨_, true, .raw (.int .i64 (0 : Int))⟩ :: []) (tl := []) (by kernel_rfl) (by kernel_rfl) (by kernel_rfl) ?_ ?_
 ·exact
   Obls.p (fun R' w' hw hs hd => of_assign rfl) <|
   Obls.nil
 intro R w hw hs hF'
 replace h0 := (hs 0 rfl).trans h0
 replace h4 := (hs 4 rfl).trans h4
 replace h5 := (hs 5 rfl).trans h5
 have h6 : R 6 = .int .i64 (0 : Int) := hF' 0 _ _ rfl rfl rfl
 replace f_v0 := f_v0.fr hw
 replace hA := hA.fr hw.size
 replace hF := hF.trans hw
 clear hs hF' hw
 refine seqR_nil ?_
 obtain ⟨rl1, q2, hr⟩ := cl_some hr
 replace q2 := q2 rfl
 refine HT.cut0 (fun R w => ∃ (s3 : Int × Int), rl1 = s3 ∧ AvOK A w ∧ Fr w0 w ∧ R 0 = v0 ∧ R 4 = .int .i64 s3.1 ∧ R 5 = .int .i64 s3.2 ∧ Rep eStr A w v0 p0) ?_ ?_
 ·refine HT.block ?_
  refine HT.loop (fun k R w => ∃ (y4 : Int) (y5 : Int) (y6 : Int), M_spec_ParseInt_L0 fu p0 k y4 y5 y6 = some rl1 ∧ AvOK A w ∧ Fr w0 w ∧ R 0 = v0 ∧ R 4 = .int .i64 y4 ∧ R 5 = .int .i64 y5 ∧ R 6 = .int .i64 y6 ∧ Rep eStr A w v0 p0) fu ⟨_, _, _, q2, hA, hF, h0, h4, h5, h6, f_v0⟩ ?_
  have hr0 := hr; clear hr q2
  rintro k R w ⟨y4, y5, y6, hr, hA, hF, h0, h4, h5, h6, f_v0⟩
  rcases k with _ | k
  ·cases (show none = some _ from hr)
  rw [M_spec_ParseInt_L0] at hr
  refine HT.seq ?_
  refine HT.seq ?_
  obtain ⟨x7, q8, hr⟩ := bd_some hr
  refine HT.text (l := ⟨_, true, .raw (.int .i64 y6)⟩ :: ⟨_, true, .raw v0⟩ :: ⟨_, true, .raw (.int .i64 (p0.length : Int))⟩ :: ⟨_, true, .raw (.bool (decide (y6 < (p0.length : Int))))⟩ :: ⟨_, true, .raw (.bool (decide (y6 < (p0.length : Int))))⟩ :: ⟨_, (true && ((decide (y6 < (p0.length : Int))) == true)), .raw (.int .i64 y6)⟩ :: ⟨_, (true && ((decide (y6 < (p0.length : Int))) == true)), .raw (.bool (decide (y6 < (11 : Int))))⟩ :: ⟨_, true, .raw (.bool x7)⟩ :: []) (tl := []) (by kernel_rfl) (by kernel_rfl) (by kernel_rfl) ?_ ?_
  ·exact
    Obls.p (fun R' w' hw hs hd => of_move ((hs 6 rfl).trans h6)) <|
    Obls.p (fun R' w' hw hs hd => of_move ((hs 0 rfl).trans h0)) <|
    Obls.p (fun R' w' hw hs hd => by have a0 : R' 8 = v0 := hd.g 0 rfl; have ra0 := (f_v0.fr hw).eq a0; exact of_len_str ra0 Tryd.underlying9) <|
    Obls.p (fun R' w' hw hs hd => by have a0 : R' 7 = .int .i64 y6 := hd.g 0 rfl; have a1 : R' 9 = .int .i64 (p0.length : Int) := hd.g 1 rfl; exact of_lss a0 a1) <|
    Obls.p (fun R' w' hw hs hd => by have a0 : R' 10 = .bool (decide (y6 < (p0.length : Int))) := hd.g 0 rfl; exact of_move a0) <|
    Obls.cons (Obl.grd 4 true _ _ _ rfl rfl rfl rfl rfl (by kernel_rfl) fun hg R' w' hw hs hd => by have a0 : R' 6 = .int .i64 y6 := (hs 6 rfl).trans h6; exact of_move a0) <|
    Obls.cons (Obl.grd 4 true _ _ _ rfl rfl rfl rfl rfl (by kernel_rfl) fun hg R' w' hw hs hd => by have a0 : R' 12 = .int .i64 y6 := hd 0 _ _ _ rfl rfl rfl rfl hg; exact of_lss a0 rfl) <|
    Obls.p (fun R' w' hw hs hd => by have a0 : R' 11 = .bool (decide (y6 < (p0.length : Int))) := hd.g 0 rfl; exact of_pick (decide (y6 < (p0.length : Int))) a0 (fun hc => by have a1 : R' 13 = .bool (decide (y6 < (11 : Int))) := hd 1 _ _ _ rfl rfl rfl rfl (g_and rfl (beq_of hc)); show _ = Value.bool x7; rw [q8, hc]; exact a1) (fun hc => by show _ = Value.bool x7; rw [q8, hc]; exact rfl)) <|
    Obls.nil
  intro R w hw hs hF'
  replace h0 := (hs 0 rfl).trans h0
  replace h4 := (hs 4 rfl).trans h4
  replace h5 := (hs 5 rfl).trans h5
  replace h6 := (hs 6 rfl).trans h6
  have h14 : R 14 = .bool x7 := hF' 7 _ _ rfl rfl rfl
  replace f_v0 := f_v0.fr hw
  replace hA := hA.fr hw.size
  replace hF := hF.trans hw
  clear hs hF' hw
  refine seqR_nil ?_
  refine HT.cond x7 h14 (fun c9 => ?_) (fun c9 => ?_)
  ·have hr := cnd_t c9 hr
   refine HT.skip ?_
   refine HT.seq ?_
   refine HT.block ?_
   refine HT.seq ?_
   obtain ⟨e10, hr⟩ := ck_some hr
   obtain ⟨e11, hr⟩ := ck_some hr
   obtain ⟨x12, q13, hr⟩ := bd_some hr
   refine HT.text (l := ⟨_, true, .raw v0⟩ :: ⟨_, true, .raw (.int .i64 y6)⟩ :: ⟨_, true, .raw (.int .u8 (bAt p0 y6))⟩ :: ⟨_, true, .raw (.bool (decide ((48 : Int) ≤ (bAt p0 y6))))⟩ :: ⟨_, true, .raw (.bool (decide ((48 : Int) ≤ (bAt p0 y6))))⟩ :: ⟨_, (true && ((decide ((48 : Int) ≤ (bAt p0 y6))) == true)), .raw v0⟩ :: ⟨_, (true && ((decide ((48 : Int) ≤ (bAt p0 y6))) == true)), .raw (.int .i64 y6)⟩ :: ⟨_, (true && ((decide ((48 : Int) ≤ (bAt p0 y6))) == true)), .raw (.int .u8 (bAt p0 y6))⟩ :: ⟨_, (true && ((decide ((48 : Int) ≤ (bAt p0 y6))) == true)), .raw (.bool (decide ((bAt p0 y6) ≤ (57 : Int))))⟩ :: ⟨_, true, .raw (.bool x12)⟩ :: []) (tl := []) (by kernel_rfl) (by kernel_rfl) (by kernel_rfl) ?_ ?_
   ·exact
     Obls.p (fun R' w' hw hs hd => of_move ((hs 0 rfl).trans h0)) <|
     Obls.p (fun R' w' hw hs hd => of_move ((hs 6 rfl).trans h6)) <|
     Obls.p (fun R' w' hw hs hd => by have a0 : R' 17 = v0 := hd.g 0 rfl; have ra0 := (f_v0.fr hw).eq a0; have a1 : R' 18 = .int .i64 y6 := hd.g 1 rfl; exact of_strIndex ra0 a1 Tryd.underlying9 e10) <|
     Obls.p (fun R' w' hw hs hd => by have a0 : R' 19 = .int .u8 (bAt p0 y6) := hd.g 0 rfl; exact of_geq a0 rfl) <|
     Obls.p (fun R' w' hw hs hd => by have a0 : R' 20 = .bool (decide ((48 : Int) ≤ (bAt p0 y6))) := hd.g 0 rfl; exact of_move a0) <|
     Obls.cons (Obl.grd 4 true _ _ _ rfl rfl rfl rfl rfl (by kernel_rfl) fun hg R' w' hw hs hd => by have a0 : R' 0 = v0 := (hs 0 rfl).trans h0; exact of_move a0) <|
     Obls.cons (Obl.grd 4 true _ _ _ rfl rfl rfl rfl rfl (by kernel_rfl) fun hg R' w' hw hs hd => by have a0 : R' 6 = .int .i64 y6 := (hs 6 rfl).trans h6; exact of_move a0) <|
     Obls.cons (Obl.grd 4 true _ _ _ rfl rfl rfl rfl rfl (by kernel_rfl) fun hg R' w' hw hs hd => by have a0 : R' 22 = v0 := hd 0 _ _ _ rfl rfl rfl rfl hg; have ra0 := (f_v0.fr hw).eq a0; have a1 : R' 23 = .int .i64 y6 := hd 1 _ _ _ rfl rfl rfl rfl hg; exact of_strIndex ra0 a1 Tryd.underlying9 (gd e11 hg)) <|
     Obls.cons (Obl.grd 4 true _ _ _ rfl rfl rfl rfl rfl (by kernel_rfl) fun hg R' w' hw hs hd => by have a0 : R' 24 = .int .u8 (bAt p0 y6) := hd 0 _ _ _ rfl rfl rfl rfl hg; exact of_leq a0 rfl) <|
     Obls.p (fun R' w' hw hs hd => by have a0 : R' 21 = .bool (decide ((48 : Int) ≤ (bAt p0 y6))) := hd.g 0 rfl; exact of_pick (decide ((48 : Int) ≤ (bAt p0 y6))) a0 (fun hc => by have a1 : R' 25 = .bool (decide ((bAt p0 y6) ≤ (57 : Int))) := hd 1 _ _ _ rfl rfl rfl rfl (g_and rfl (beq_of hc)); show _ = Value.bool x12; rw [q13, hc]; exact a1) (fun hc => by show _ = Value.bool x12; rw [q13, hc]; exact rfl)) <|
     Obls.nil
   intro R w hw hs hF'
   replace h0 := (hs 0 rfl).trans h0
   replace h4 := (hs 4 rfl).trans h4
   replace h5 := (hs 5 rfl).trans h5
   replace h6 := (hs 6 rfl).trans h6
   have h26 : R 26 = .bool x12 := hF' 9 _ _ rfl rfl rfl
   replace f_v0 := f_v0.fr hw
   replace hA := hA.fr hw.size
   replace hF := hF.trans hw
   clear hs hF' hw
   refine seqR_nil ?_
   refine HT.cond x12 h26 (fun c14 => ?_) (fun c14 => ?_)
   ·have hr := cnd_t c14 hr
    refine HT.seq ?_
    obtain ⟨e15, hr⟩ := ck_some hr
    obtain ⟨e16, hr⟩ := ck_some hr
    obtain ⟨e17, hr⟩ := ck_some hr
    refine HT.text (l := ⟨_, true, .raw (.int .i64 y4)⟩ :: ⟨_, true, .raw (.int .i64 (y4 * (10 : Int)))⟩ :: ⟨_, true, .raw v0⟩ :: ⟨_, true, .raw (.int .i64 y6)⟩ :: ⟨_, true, .raw (.int .u8 (bAt p0 y6))⟩ :: ⟨_, true, .raw (.int .u8 (IntKind.u8.wrap ((bAt p0 y6) - (48 : Int))))⟩ :: ⟨_, true, .raw (.int .i64 (IntKind.i64.wrap (IntKind.u8.wrap ((bAt p0 y6) - (48 : Int)))))⟩ :: ⟨_, true, .raw (.int .i64 ((y4 * (10 : Int)) + (IntKind.i64.wrap (IntKind.u8.wrap ((bAt p0 y6) - (48 : Int))))))⟩ :: ⟨_, true, .raw (.int .i64 ((y4 * (10 : Int)) + (IntKind.i64.wrap (IntKind.u8.wrap ((bAt p0 y6) - (48 : Int))))))⟩ :: []) (tl := []) (by kernel_rfl) (by kernel_rfl) (by kernel_rfl) ?_ ?_
    ·exact
      Obls.p (fun R' w' hw hs hd => of_move ((hs 4 rfl).trans h4)) <|
      Obls.p (fun R' w' hw hs hd => by have a0 : R' 27 = .int .i64 y4 := hd.g 0 rfl; exact of_mul a0 rfl e15) <|
      Obls.p (fun R' w' hw hs hd => of_move ((hs 0 rfl).trans h0)) <|
      Obls.p (fun R' w' hw hs hd => of_move ((hs 6 rfl).trans h6)) <|
      Obls.p (fun R' w' hw hs hd => by have a0 : R' 29 = v0 := hd.g 0 rfl; have ra0 := (f_v0.fr hw).eq a0; have a1 : R' 30 = .int .i64 y6 := hd.g 1 rfl; exact of_strIndex ra0 a1 Tryd.underlying9 e16) <|
      Obls.p (fun R' w' hw hs hd => by have a0 : R' 31 = .int .u8 (bAt p0 y6) := hd.g 0 rfl; exact of_sub_w a0 rfl) <|
      Obls.p (fun R' w' hw hs hd => by have a0 : R' 32 = .int .u8 (IntKind.u8.wrap ((bAt p0 y6) - (48 : Int))) := hd.g 0 rfl; exact of_conv_int a0 Tryd.underlying5 Tryd.underlying3) <|
      Obls.p (fun R' w' hw hs hd => by have a0 : R' 28 = .int .i64 (y4 * (10 : Int)) := hd.g 0 rfl; have a1 : R' 33 = .int .i64 (IntKind.i64.wrap (IntKind.u8.wrap ((bAt p0 y6) - (48 : Int)))) := hd.g 1 rfl; exact of_add a0 a1 e17) <|
      Obls.p (fun R' w' hw hs hd => by have a0 : R' 34 = .int .i64 ((y4 * (10 : Int)) + (IntKind.i64.wrap (IntKind.u8.wrap ((bAt p0 y6) - (48 : Int))))) := hd.g 0 rfl; exact of_assign a0) <|
      Obls.nil
    intro R w hw hs hF'
    replace h0 := (hs 0 rfl).trans h0
    replace h5 := (hs 5 rfl).trans h5
    replace h6 := (hs 6 rfl).trans h6
    have h4 : R 4 = .int .i64 ((y4 * (10 : Int)) + (IntKind.i64.wrap (IntKind.u8.wrap ((bAt p0 y6) - (48 : Int))))) := hF' 8 _ _ rfl rfl rfl
    replace f_v0 := f_v0.fr hw
    replace hA := hA.fr hw.size
    replace hF := hF.trans hw
    clear hs hF' hw
    refine seqR_nil ?_
    obtain ⟨e18, hr⟩ := ck_some hr
    refine HT.text (l := ⟨_, true, .raw (.int .i64 y5)⟩ :: ⟨_, true, .raw (.int .i64 (y5 + (1 : Int)))⟩ :: ⟨_, true, .raw (.int .i64 (y5 + (1 : Int)))⟩ :: []) (tl := []) (by kernel_rfl) (by kernel_rfl) (by kernel_rfl) ?_ ?_
    ·exact
      Obls.p (fun R' w' hw hs hd => of_move ((hs 5 rfl).trans h5)) <|
      Obls.p (fun R' w' hw hs hd => by have a0 : R' 35 = .int .i64 y5 := hd.g 0 rfl; exact of_add a0 rfl e18) <|
      Obls.p (fun R' w' hw hs hd => by have a0 : R' 36 = .int .i64 (y5 + (1 : Int)) := hd.g 0 rfl; exact of_assign a0) <|
      Obls.nil
    intro R w hw hs hF'
    replace h0 := (hs 0 rfl).trans h0
    replace h4 := (hs 4 rfl).trans h4
    replace h6 := (hs 6 rfl).trans h6
    have h5 : R 5 = .int .i64 (y5 + (1 : Int)) := hF' 2 _ _ rfl rfl rfl
    replace f_v0 := f_v0.fr hw
    replace hA := hA.fr hw.size
    replace hF := hF.trans hw
    clear hs hF' hw
    refine seqR_nil ?_
    obtain ⟨e19, hr⟩ := ck_some hr
    refine HT.text (l := ⟨_, true, .raw (.int .i64 y6)⟩ :: ⟨_, true, .raw (.int .i64 (y6 + (1 : Int)))⟩ :: ⟨_, true, .raw (.int .i64 (y6 + (1 : Int)))⟩ :: []) (tl := []) (by kernel_rfl) (by kernel_rfl) (by kernel_rfl) ?_ ?_
    ·exact
      Obls.p (fun R' w' hw hs hd => of_move ((hs 6 rfl).trans h6)) <|
      Obls.p (fun R' w' hw hs hd => by have a0 : R' 15 = .int .i64 y6 := hd.g 0 rfl; exact of_add a0 rfl e19) <|
      Obls.p (fun R' w' hw hs hd => by have a0 : R' 16 = .int .i64 (y6 + (1 : Int)) := hd.g 0 rfl; exact of_assign a0) <|
      Obls.nil
    intro R w hw hs hF'
    replace h0 := (hs 0 rfl).trans h0
    replace h4 := (hs 4 rfl).trans h4
    replace h5 := (hs 5 rfl).trans h5
    have h6 : R 6 = .int .i64 (y6 + (1 : Int)) := hF' 2 _ _ rfl rfl rfl
    replace f_v0 := f_v0.fr hw
    replace hA := hA.fr hw.size
    replace hF := hF.trans hw
    clear hs hF' hw
    refine seqR_nil ?_
    exact Exists.intro k (And.intro (Nat.lt_succ_self k) ⟨_, _, _, hr, hA, hF, h0, h4, h5, h6, f_v0⟩)
   ·have hr := cnd_f c14 hr
    refine HT.skip ?_
    obtain ⟨e20, hr⟩ := ck_some hr
    refine HT.text (l := ⟨_, true, .raw (.int .i64 y6)⟩ :: ⟨_, true, .raw (.int .i64 (y6 + (1 : Int)))⟩ :: ⟨_, true, .raw (.int .i64 (y6 + (1 : Int)))⟩ :: []) (tl := []) (by kernel_rfl) (by kernel_rfl) (by kernel_rfl) ?_ ?_
    ·exact
      Obls.p (fun R' w' hw hs hd => of_move ((hs 6 rfl).trans h6)) <|
      Obls.p (fun R' w' hw hs hd => by have a0 : R' 15 = .int .i64 y6 := hd.g 0 rfl; exact of_add a0 rfl e20) <|
      Obls.p (fun R' w' hw hs hd => by have a0 : R' 16 = .int .i64 (y6 + (1 : Int)) := hd.g 0 rfl; exact of_assign a0) <|
      Obls.nil
    intro R w hw hs hF'
    replace h0 := (hs 0 rfl).trans h0
    replace h4 := (hs 4 rfl).trans h4
    replace h5 := (hs 5 rfl).trans h5
    have h6 : R 6 = .int .i64 (y6 + (1 : Int)) := hF' 2 _ _ rfl rfl rfl
    replace f_v0 := f_v0.fr hw
    replace hA := hA.fr hw.size
    replace hF := hF.trans hw
    clear hs hF' hw
    refine seqR_nil ?_
    exact Exists.intro k (And.intro (Nat.lt_succ_self k) ⟨_, _, _, hr, hA, hF, h0, h4, h5, h6, f_v0⟩)
  ·have hr := cnd_f c9 hr
   refine HT.exit ?_
   obtain rfl := Option.some.inj hr
   exact Exists.intro _ ⟨rfl, hA, hF, h0, h4, h5, f_v0⟩
 rintro R w ⟨s3, es, hA, hF, h0, h4, h5, f_v0⟩
 obtain rfl := es.symm
 refine HT.seq ?_
 refine HT.seq ?_
 obtain ⟨e21, hr⟩ := ck_some hr
 obtain ⟨x22, q23, hr⟩ := bd_some hr
 refine HT.text (l := ⟨_, true, .raw v0⟩ :: ⟨_, true, .raw (.int .i64 (p0.length : Int))⟩ :: ⟨_, true, .raw (.bool (decide ((0 : Int) < (p0.length : Int))))⟩ :: ⟨_, true, .raw (.bool (decide ((0 : Int) < (p0.length : Int))))⟩ :: ⟨_, (true && ((decide ((0 : Int) < (p0.length : Int))) == true)), .raw v0⟩ :: ⟨_, (true && ((decide ((0 : Int) < (p0.length : Int))) == true)), .raw (.int .u8 (bAt p0 (0 : Int)))⟩ :: ⟨_, (true && ((decide ((0 : Int) < (p0.length : Int))) == true)), .raw (.bool ((bAt p0 (0 : Int)) == (45 : Int)))⟩ :: ⟨_, true, .raw (.bool x22)⟩ :: []) (tl := []) (by kernel_rfl) (by kernel_rfl) (by kernel_rfl) ?_ ?_
 ·exact
   Obls.p (fun R' w' hw hs hd => of_move ((hs 0 rfl).trans h0)) <|
   Obls.p (fun R' w' hw hs hd => by have a0 : R' 37 = v0 := hd.g 0 rfl; have ra0 := (f_v0.fr hw).eq a0; exact of_len_str ra0 Tryd.underlying9) <|
   Obls.p (fun R' w' hw hs hd => by have a0 : R' 38 = .int .i64 (p0.length : Int) := hd.g 0 rfl; exact of_gtr a0 rfl) <|
   Obls.p (fun R' w' hw hs hd => by have a0 : R' 39 = .bool (decide ((0 : Int) < (p0.length : Int))) := hd.g 0 rfl; exact of_move a0) <|
   Obls.cons (Obl.grd 3 true _ _ _ rfl rfl rfl rfl rfl (by kernel_rfl) fun hg R' w' hw hs hd => by have a0 : R' 0 = v0 := (hs 0 rfl).trans h0; exact of_move a0) <|
   Obls.cons (Obl.grd 3 true _ _ _ rfl rfl rfl rfl rfl (by kernel_rfl) fun hg R' w' hw hs hd => by have a0 : R' 41 = v0 := hd 0 _ _ _ rfl rfl rfl rfl hg; have ra0 := (f_v0.fr hw).eq a0; exact of_strIndex ra0 rfl Tryd.underlying9 (gd e21 hg)) <|
   Obls.cons (Obl.grd 3 true _ _ _ rfl rfl rfl rfl rfl (by kernel_rfl) fun hg R' w' hw hs hd => by have a0 : R' 42 = .int .u8 (bAt p0 (0 : Int)) := hd 0 _ _ _ rfl rfl rfl rfl hg; exact of_eql a0 rfl) <|
   Obls.p (fun R' w' hw hs hd => by have a0 : R' 40 = .bool (decide ((0 : Int) < (p0.length : Int))) := hd.g 0 rfl; exact of_pick (decide ((0 : Int) < (p0.length : Int))) a0 (fun hc => by have a1 : R' 43 = .bool ((bAt p0 (0 : Int)) == (45 : Int)) := hd 1 _ _ _ rfl rfl rfl rfl (g_and rfl (beq_of hc)); show _ = Value.bool x22; rw [q23, hc]; exact a1) (fun hc => by show _ = Value.bool x22; rw [q23, hc]; exact rfl)) <|
   Obls.nil
 intro R w hw hs hF'
 replace h0 := (hs 0 rfl).trans h0
 replace h4 := (hs 4 rfl).trans h4
 replace h5 := (hs 5 rfl).trans h5
 have h44 : R 44 = .bool x22 := hF' 7 _ _ rfl rfl rfl
 replace f_v0 := f_v0.fr hw
 replace hA := hA.fr hw.size
 replace hF := hF.trans hw
 clear hs hF' hw
 refine seqR_nil ?_
 refine HT.cond x22 h44 (fun c24 => ?_) (fun c24 => ?_)
 ·have hr := cnd_t c24 hr
  obtain ⟨e25, hr⟩ := ck_some hr
  refine HT.text (l := ⟨_, true, .raw (.int .i64 s3.1)⟩ :: ⟨_, true, .raw (.int .i64 (0 - s3.1))⟩ :: ⟨_, true, .raw (.int .i64 (0 - s3.1))⟩ :: []) (tl := []) (by kernel_rfl) (by kernel_rfl) (by kernel_rfl) ?_ ?_
  ·exact
    Obls.p (fun R' w' hw hs hd => of_move ((hs 4 rfl).trans h4)) <|
    Obls.p (fun R' w' hw hs hd => by have a0 : R' 45 = .int .i64 s3.1 := hd.g 0 rfl; exact of_neg a0 e25) <|
    Obls.p (fun R' w' hw hs hd => by have a0 : R' 46 = .int .i64 (0 - s3.1) := hd.g 0 rfl; exact of_assign a0) <|
    Obls.nil
  intro R w hw hs hF'
  replace h0 := (hs 0 rfl).trans h0
  replace h5 := (hs 5 rfl).trans h5
  have h4 : R 4 = .int .i64 (0 - s3.1) := hF' 2 _ _ rfl rfl rfl
  replace f_v0 := f_v0.fr hw
  replace hA := hA.fr hw.size
  replace hF := hF.trans hw
  clear hs hF' hw
  refine seqR_nil ?_
  refine HT.seq ?_
  refine HT.seq ?_
  obtain ⟨x26, q27, hr⟩ := bd_some hr
  obtain ⟨x28, q29, hr⟩ := cl_some hr
  obtain ⟨x30, q31, hr⟩ := bd_some hr
  refine HT.text (l := ⟨_, true, .raw (.int .i64 s3.2)⟩ :: ⟨_, true, .raw (.bool (decide ((9 : Int) < s3.2)))⟩ :: ⟨_, true, .raw (.bool (decide ((9 : Int) < s3.2)))⟩ :: ⟨_, (true && ((decide ((9 : Int) < s3.2)) == false)), .raw v0⟩ :: ⟨_, (true && ((decide ((9 : Int) < s3.2)) == false)), .raw (.int .i64 (p0.length : Int))⟩ :: ⟨_, (true && ((decide ((9 : Int) < s3.2)) == false)), .raw (.bool (decide ((10 : Int) < (p0.length : Int))))⟩ :: ⟨_, true, .raw (.bool x26)⟩ :: ⟨_, true, .raw (.bool x26)⟩ :: ⟨_, (true && (x26 == false)), .raw (.int .i64 (0 - s3.1))⟩ :: ⟨_, (true && (x26 == false)), .rep eStr A x28⟩ :: ⟨_, (true && (x26 == false)), .raw v0⟩ :: ⟨_, (true && (x26 == false)), .raw (.bool (!(x28 == p0)))⟩ :: ⟨_, true, .raw (.bool x30)⟩ :: []) (tl := []) (by kernel_rfl) (by kernel_rfl) (by kernel_rfl) ?_ ?_
  ·exact
    Obls.p (fun R' w' hw hs hd => of_move ((hs 5 rfl).trans h5)) <|
    Obls.p (fun R' w' hw hs hd => by have a0 : R' 47 = .int .i64 s3.2 := hd.g 0 rfl; exact of_gtr a0 rfl) <|
    Obls.p (fun R' w' hw hs hd => by have a0 : R' 48 = .bool (decide ((9 : Int) < s3.2)) := hd.g 0 rfl; exact of_move a0) <|
    Obls.cons (Obl.grd 2 false _ _ _ rfl rfl rfl rfl rfl (by kernel_rfl) fun hg R' w' hw hs hd => by have a0 : R' 0 = v0 := (hs 0 rfl).trans h0; exact of_move a0) <|
    Obls.cons (Obl.grd 2 false _ _ _ rfl rfl rfl rfl rfl (by kernel_rfl) fun hg R' w' hw hs hd => by have a0 : R' 50 = v0 := hd 0 _ _ _ rfl rfl rfl rfl hg; have ra0 := (f_v0.fr hw).eq a0; exact of_len_str ra0 Tryd.underlying9) <|
    Obls.cons (Obl.grd 2 false _ _ _ rfl rfl rfl rfl rfl (by kernel_rfl) fun hg R' w' hw hs hd => by have a0 : R' 51 = .int .i64 (p0.length : Int) := hd 0 _ _ _ rfl rfl rfl rfl hg; exact of_gtr a0 rfl) <|
    Obls.p (fun R' w' hw hs hd => by have a0 : R' 49 = .bool (decide ((9 : Int) < s3.2)) := hd.g 0 rfl; exact of_pick (decide ((9 : Int) < s3.2)) a0 (fun hc => by show _ = Value.bool x26; rw [q27, hc]; exact rfl) (fun hc => by have a2 : R' 52 = .bool (decide ((10 : Int) < (p0.length : Int))) := hd 1 _ _ _ rfl rfl rfl rfl (g_and rfl (beq_of hc)); show _ = Value.bool x26; rw [q27, hc]; exact a2)) <|
    Obls.p (fun R' w' hw hs hd => by have a0 : R' 53 = .bool x26 := hd.g 0 rfl; exact of_move a0) <|
    Obls.cons (Obl.grd 7 false _ _ _ rfl rfl rfl rfl rfl (by kernel_rfl) fun hg R' w' hw hs hd => by have a0 : R' 4 = .int .i64 (0 - s3.1) := (hs 4 rfl).trans h4; exact of_move a0) <|
    Obls.cons (Obl.grd 7 false _ _ _ rfl rfl rfl rfl rfl (by kernel_rfl) fun hg R' w' hw hs hd => by have a0 : R' 55 = .int .i64 (0 - s3.1) := hd 0 _ _ _ rfl rfl rfl rfl hg; exact of_call Tryd.call29 (M_spec_FormatInt_ok (q29 hg) (hA.fr hw.size) a0)) <|
    Obls.cons (Obl.grd 7 false _ _ _ rfl rfl rfl rfl rfl (by kernel_rfl) fun hg R' w' hw hs hd => by have a0 : R' 0 = v0 := (hs 0 rfl).trans h0; exact of_move a0) <|
    Obls.cons (Obl.grd 7 false _ _ _ rfl rfl rfl rfl rfl (by kernel_rfl) fun hg R' w' hw hs hd => by have a0 : Rep eStr A w' (R' 56) x28 := hd 0 _ _ _ rfl rfl rfl rfl hg; have a1 : R' 57 = v0 := hd 1 _ _ _ rfl rfl rfl rfl hg; have ra1 := (f_v0.fr hw).eq a1; exact of_sneq a0 ra1) <|
    Obls.p (fun R' w' hw hs hd => by have a0 : R' 54 = .bool x26 := hd.g 0 rfl; exact of_pick x26 a0 (fun hc => by show _ = Value.bool x30; rw [q31, hc]; exact rfl) (fun hc => by have a2 : R' 58 = .bool (!(x28 == p0)) := hd 1 _ _ _ rfl rfl rfl rfl (g_and rfl (beq_of hc)); show _ = Value.bool x30; rw [q31, hc]; exact a2)) <|
    Obls.nil
  intro R w hw hs hF'
  replace h4 := (hs 4 rfl).trans h4
  have h59 : R 59 = .bool x30 := hF' 12 _ _ rfl rfl rfl
  replace hA := hA.fr hw.size
  replace hF := hF.trans hw
  clear hs hF' hw
  refine seqR_nil ?_
  refine HT.cond x30 h59 (fun c32 => ?_) (fun c32 => ?_)
  ·have hr := cnd_t c32 hr
   refine HT.seq ?_
   refine HT.text (l := ⟨_, true, .raw (.int .i64 (0 : Int))⟩ :: ⟨_, true, .raw (.bool false)⟩ :: []) (tl := []) (by kernel_rfl) (by kernel_rfl) (by kernel_rfl) ?_ ?_
   ·exact
     Obls.p (fun R' w' hw hs hd => of_assign rfl) <|
     Obls.p (fun R' w' hw hs hd => of_assign rfl) <|
     Obls.nil
   intro R w hw hs hF'
   have h2 : R 2 = .int .i64 (0 : Int) := hF' 0 _ _ rfl rfl rfl
   have h3 : R 3 = .bool false := hF' 1 _ _ rfl rfl rfl
   replace hA := hA.fr hw.size
   replace hF := hF.trans hw
   clear hs hF' hw
   refine seqR_nil ?_
   refine HT.ret ?_
   obtain rfl := Option.some.inj hr
   exact ⟨.inr rfl, [R 2, R 3], ⟨rfl, ⟨rfl, trivial⟩⟩, ⟨_, _, rfl, h2, h3⟩, hF⟩
  ·have hr := cnd_f c32 hr
   refine HT.skip ?_
   refine HT.seq ?_
   refine HT.text (l := ⟨_, true, .raw (.int .i64 (0 - s3.1))⟩ :: ⟨_, true, .raw (.int .i64 (0 - s3.1))⟩ :: ⟨_, true, .raw (.bool true)⟩ :: []) (tl := []) (by kernel_rfl) (by kernel_rfl) (by kernel_rfl) ?_ ?_
   ·exact
     Obls.p (fun R' w' hw hs hd => of_move ((hs 4 rfl).trans h4)) <|
     Obls.p (fun R' w' hw hs hd => by have a0 : R' 60 = .int .i64 (0 - s3.1) := hd.g 0 rfl; exact of_assign a0) <|
     Obls.p (fun R' w' hw hs hd => of_assign rfl) <|
     Obls.nil
   intro R w hw hs hF'
   have h2 : R 2 = .int .i64 (0 - s3.1) := hF' 1 _ _ rfl rfl rfl
   have h3 : R 3 = .bool true := hF' 2 _ _ rfl rfl rfl
   replace hA := hA.fr hw.size
   replace hF := hF.trans hw
   clear hs hF' hw
   refine seqR_nil ?_
   refine HT.ret ?_
   obtain rfl := Option.some.inj hr
   exact ⟨.inr rfl, [R 2, R 3], ⟨rfl, ⟨rfl, trivial⟩⟩, ⟨_, _, rfl, h2, h3⟩, hF⟩
 ·have hr := cnd_f c24 hr
  refine HT.skip ?_
  refine HT.seq ?_
  refine HT.seq ?_
  obtain ⟨x33, q34, hr⟩ := bd_some hr
  obtain ⟨x35, q36, hr⟩ := cl_some hr
  obtain ⟨x37, q38, hr⟩ := bd_some hr
  refine HT.text (l := ⟨_, true, .raw (.int .i64 s3.2)⟩ :: ⟨_, true, .raw (.bool (decide ((9 : Int) < s3.2)))⟩ :: ⟨_, true, .raw (.bool (decide ((9 : Int) < s3.2)))⟩ :: ⟨_, (true && ((decide ((9 : Int) < s3.2)) == false)), .raw v0⟩ :: ⟨_, (true && ((decide ((9 : Int) < s3.2)) == false)), .raw (.int .i64 (p0.length : Int))⟩ :: ⟨_, (true && ((decide ((9 : Int) < s3.2)) == false)), .raw (.bool (decide ((10 : Int) < (p0.length : Int))))⟩ :: ⟨_, true, .raw (.bool x33)⟩ :: ⟨_, true, .raw (.bool x33)⟩ :: ⟨_, (true && (x33 == false)), .raw (.int .i64 s3.1)⟩ :: ⟨_, (true && (x33 == false)), .rep eStr A x35⟩ :: ⟨_, (true && (x33 == false)), .raw v0⟩ :: ⟨_, (true && (x33 == false)), .raw (.bool (!(x35 == p0)))⟩ :: ⟨_, true, .raw (.bool x37)⟩ :: []) (tl := []) (by kernel_rfl) (by kernel_rfl) (by kernel_rfl) ?_ ?_
  ·exact
    Obls.p (fun R' w' hw hs hd => of_move ((hs 5 rfl).trans h5)) <|
    Obls.p (fun R' w' hw hs hd => by have a0 : R' 47 = .int .i64 s3.2 := hd.g 0 rfl; exact of_gtr a0 rfl) <|
    Obls.p (fun R' w' hw hs hd => by have a0 : R' 48 = .bool (decide ((9 : Int) < s3.2)) := hd.g 0 rfl; exact of_move a0) <|
    Obls.cons (Obl.grd 2 false _ _ _ rfl rfl rfl rfl rfl (by kernel_rfl) fun hg R' w' hw hs hd => by have a0 : R' 0 = v0 := (hs 0 rfl).trans h0; exact of_move a0) <|
    Obls.cons (Obl.grd 2 false _ _ _ rfl rfl rfl rfl rfl (by kernel_rfl) fun hg R' w' hw hs hd => by have a0 : R' 50 = v0 := hd 0 _ _ _ rfl rfl rfl rfl hg; have ra0 := (f_v0.fr hw).eq a0; exact of_len_str ra0 Tryd.underlying9) <|
    Obls.cons (Obl.grd 2 false _ _ _ rfl rfl rfl rfl rfl (by kernel_rfl) fun hg R' w' hw hs hd => by have a0 : R' 51 = .int .i64 (p0.length : Int) := hd 0 _ _ _ rfl rfl rfl rfl hg; exact of_gtr a0 rfl) <|
    Obls.p (fun R' w' hw hs hd => by have a0 : R' 49 = .bool (decide ((9 : Int) < s3.2)) := hd.g 0 rfl; exact of_pick (decide ((9 : Int) < s3.2)) a0 (fun hc => by show _ = Value.bool x33; rw [q34, hc]; exact rfl) (fun hc => by have a2 : R' 52 = .bool (decide ((10 : Int) < (p0.length : Int))) := hd 1 _ _ _ rfl rfl rfl rfl (g_and rfl (beq_of hc)); show _ = Value.bool x33; rw [q34, hc]; exact a2)) <|
    Obls.p (fun R' w' hw hs hd => by have a0 : R' 53 = .bool x33 := hd.g 0 rfl; exact of_move a0) <|
    Obls.cons (Obl.grd 7 false _ _ _ rfl rfl rfl rfl rfl (by kernel_rfl) fun hg R' w' hw hs hd => by have a0 : R' 4 = .int .i64 s3.1 := (hs 4 rfl).trans h4; exact of_move a0) <|
    Obls.cons (Obl.grd 7 false _ _ _ rfl rfl rfl rfl rfl (by kernel_rfl) fun hg R' w' hw hs hd => by have a0 : R' 55 = .int .i64 s3.1 := hd 0 _ _ _ rfl rfl rfl rfl hg; exact of_call Tryd.call29 (M_spec_FormatInt_ok (q36 hg) (hA.fr hw.size) a0)) <|
    Obls.cons (Obl.grd 7 false _ _ _ rfl rfl rfl rfl rfl (by kernel_rfl) fun hg R' w' hw hs hd => by have a0 : R' 0 = v0 := (hs 0 rfl).trans h0; exact of_move a0) <|
    Obls.cons (Obl.grd 7 false _ _ _ rfl rfl rfl rfl rfl (by kernel_rfl) fun hg R' w' hw hs hd => by have a0 : Rep eStr A w' (R' 56) x35 := hd 0 _ _ _ rfl rfl rfl rfl hg; have a1 : R' 57 = v0 := hd 1 _ _ _ rfl rfl rfl rfl hg; have ra1 := (f_v0.fr hw).eq a1; exact of_sneq a0 ra1) <|
    Obls.p (fun R' w' hw hs hd => by have a0 : R' 54 = .bool x33 := hd.g 0 rfl; exact of_pick x33 a0 (fun hc => by show _ = Value.bool x37; rw [q38, hc]; exact rfl) (fun hc => by have a2 : R' 58 = .bool (!(x35 == p0)) := hd 1 _ _ _ rfl rfl rfl rfl (g_and rfl (beq_of hc)); show _ = Value.bool x37; rw [q38, hc]; exact a2)) <|
    Obls.nil
  intro R w hw hs hF'
  replace h4 := (hs 4 rfl).trans h4
  have h59 : R 59 = .bool x37 := hF' 12 _ _ rfl rfl rfl
  replace hA := hA.fr hw.size
  replace hF := hF.trans hw
  clear hs hF' hw
  refine seqR_nil ?_
  refine HT.cond x37 h59 (fun c39 => ?_) (fun c39 => ?_)
  ·have hr := cnd_t c39 hr
   refine HT.seq ?_
   refine HT.text (l := ⟨_, true, .raw (.int .i64 (0 : Int))⟩ :: ⟨_, true, .raw (.bool false)⟩ :: []) (tl := []) (by kernel_rfl) (by kernel_rfl) (by kernel_rfl) ?_ ?_
   ·exact
     Obls.p (fun R' w' hw hs hd => of_assign rfl) <|
     Obls.p (fun R' w' hw hs hd => of_assign rfl) <|
     Obls.nil
   intro R w hw hs hF'
   have h2 : R 2 = .int .i64 (0 : Int) := hF' 0 _ _ rfl rfl rfl
   have h3 : R 3 = .bool false := hF' 1 _ _ rfl rfl rfl
   replace hA := hA.fr hw.size
   replace hF := hF.trans hw
   clear hs hF' hw
   refine seqR_nil ?_
   refine HT.ret ?_
   obtain rfl := Option.some.inj hr
   exact ⟨.inr rfl, [R 2, R 3], ⟨rfl, ⟨rfl, trivial⟩⟩, ⟨_, _, rfl, h2, h3⟩, hF⟩
  ·have hr := cnd_f c39 hr
   refine HT.skip ?_
   refine HT.seq ?_
   refine HT.text (l := ⟨_, true, .raw (.int .i64 s3.1)⟩ :: ⟨_, true, .raw (.int .i64 s3.1)⟩ :: ⟨_, true, .raw (.bool true)⟩ :: []) (tl := []) (by kernel_rfl) (by kernel_rfl) (by kernel_rfl) ?_ ?_
   ·exact
     Obls.p (fun R' w' hw hs hd => of_move ((hs 4 rfl).trans h4)) <|
     Obls.p (fun R' w' hw hs hd => by have a0 : R' 60 = .int .i64 s3.1 := hd.g 0 rfl; exact of_assign a0) <|
     Obls.p (fun R' w' hw hs hd => of_assign rfl) <|
     Obls.nil
   intro R w hw hs hF'
   have h2 : R 2 = .int .i64 s3.1 := hF' 1 _ _ rfl rfl rfl
   have h3 : R 3 = .bool true := hF' 2 _ _ rfl rfl rfl
   replace hA := hA.fr hw.size
   replace hF := hF.trans hw
   clear hs hF' hw
   refine seqR_nil ?_
   refine HT.ret ?_
   obtain rfl := Option.some.inj hr
   exact ⟨.inr rfl, [R 2, R 3], ⟨rfl, ⟨rfl, trivial⟩⟩, ⟨_, _, rfl, h2, h3⟩, hF⟩
def M_spec_l1In (fu : Nat) (p0 : Int) (p1 : Int) (p2 : Int) : Option Bool :=
 bd ((decide (p1 ≤ p0)) && (decide (p0 ≤ p2))) fun x1 =>
 some x1
theorem M_spec_l1In_ok {fu : Nat} {A : Av} {p0 : Int} {p1 : Int} {p2 : Int} {r : Bool} (hr : M_spec_l1In fu p0 p1 p2 = some r) {w : World} {v0 : Value} {v1 : Value} {v2 : Value} (hA : AvOK A w) (h0 : v0 = .int .i64 p0) (h1 : v1 = .int .i64 p1) (h2 : v2 = .int .i64 p2) :
  Calls Tryd.prog 46 #[v0, v1, v2] w fun e w' => ∃ v, e = .returned v ∧ (v = .bool r ∧ Fr w w') := by
 unfold M_spec_l1In at hr
 obtain ⟨w0, hw0⟩ : ∃ w0, w0 = w := ⟨_, rfl⟩
 have hF : Fr w0 w := hw0 ▸ Fr.refl _
 rw [show Fr w = Fr w0 from hw0 ▸ rfl]
 clear hw0
 refine calls_of_HT2 [.tmp 6] Tryd.func46 Tryd.ntmps46 (by decide) rfl rfl (Nat.le_of_ble_eq_true rfl) ?_
 intro R hR
 replace h0 : R 0 = .int .i64 p0 := (hR 0 _ rfl).trans h0
 replace h1 : R 1 = .int .i64 p1 := (hR 1 _ rfl).trans h1
 replace h2 : R 2 = .int .i64 p2 := (hR 2 _ rfl).trans h2
 clear hR
 refine HT.seq ?_
 refine HT.text (l := ⟨_, true, .raw (.bool false)⟩ :: []) (tl := []) (by kernel_rfl) (by kernel_rfl) (by kernel_rfl) ?_ ?_
 ·exact
   Obls.p (fun R' w' hw hs hd => of_assign rfl) <|
   Obls.nil
 intro R w hw hs hF'
 replace h0 := (hs 0 rfl).trans h0
 replace h1 := (hs 1 rfl).trans h1
 replace h2 := (hs 2 rfl).trans h2
 replace hA := hA.fr hw.size
 replace hF := hF.trans hw
 clear hs hF' hw
 refine seqR_nil ?_
 refine HT.seq ?_
 obtain ⟨x1, q2, hr⟩ := bd_some hr
 refine HT.text (l := ⟨_, true, .raw (.int .i64 p0)⟩ :: ⟨_, true, .raw (.int .i64 p1)⟩ :: ⟨_, true, .raw (.bool (decide (p1 ≤ p0)))⟩ :: ⟨_, true, .raw (.bool (decide (p1 ≤ p0)))⟩ :: ⟨_, (true && ((decide (p1 ≤ p0)) == true)), .raw (.int .i64 p0)⟩ :: ⟨_, (true && ((decide (p1 ≤ p0)) == true)), .raw (.int .i64 p2)⟩ :: ⟨_, (true && ((decide (p1 ≤ p0)) == true)), .raw (.bool (decide (p0 ≤ p2)))⟩ :: ⟨_, true, .raw (.bool x1)⟩ :: ⟨_, true, .raw (.bool x1)⟩ :: []) (tl := []) (by kernel_rfl) (by kernel_rfl) (by kernel_rfl) ?_ ?_
 ·exact
   Obls.p (fun R' w' hw hs hd => of_move ((hs 0 rfl).trans h0)) <|
   Obls.p (fun R' w' hw hs hd => of_move ((hs 1 rfl).trans h1)) <|
   Obls.p (fun R' w' hw hs hd => by have a0 : R' 7 = .int .i64 p0 := hd.g 0 rfl; have a1 : R' 8 = .int .i64 p1 := hd.g 1 rfl; exact of_geq a0 a1) <|
   Obls.p (fun R' w' hw hs hd => by have a0 : R' 9 = .bool (decide (p1 ≤ p0)) := hd.g 0 rfl; exact of_move a0) <|
   Obls.cons (Obl.grd 3 true _ _ _ rfl rfl rfl rfl rfl (by kernel_rfl) fun hg R' w' hw hs hd => by have a0 : R' 0 = .int .i64 p0 := (hs 0 rfl).trans h0; exact of_move a0) <|
   Obls.cons (Obl.grd 3 true _ _ _ rfl rfl rfl rfl rfl (by kernel_rfl) fun hg R' w' hw hs hd => by have a0 : R' 2 = .int .i64 p2 := (hs 2 rfl).trans h2; exact of_move a0) <|
   Obls.cons (Obl.grd 3 true _ _ _ rfl rfl rfl rfl rfl (by kernel_rfl) fun hg R' w' hw hs hd => by have a0 : R' 11 = .int .i64 p0 := hd 0 _ _ _ rfl rfl rfl rfl hg; have a1 : R' 12 = .int .i64 p2 := hd 1 _ _ _ rfl rfl rfl rfl hg; exact of_leq a0 a1) <|
   Obls.p (fun R' w' hw hs hd => by have a0 : R' 10 = .bool (decide (p1 ≤ p0)) := hd.g 0 rfl; exact of_pick (decide (p1 ≤ p0)) a0 (fun hc => by have a1 : R' 13 = .bool (decide (p0 ≤ p2)) := hd 1 _ _ _ rfl rfl rfl rfl (g_and rfl (beq_of hc)); show _ = Value.bool x1; rw [q2, hc]; exact a1) (fun hc => by show _ = Value.bool x1; rw [q2, hc]; exact rfl)) <|
   Obls.p (fun R' w' hw hs hd => by have a0 : R' 14 = .bool x1 := hd.g 0 rfl; exact of_assign a0) <|
   Obls.nil
 intro R w hw hs hF'
 have h6 : R 6 = .bool x1 := hF' 8 _ _ rfl rfl rfl
 replace hA := hA.fr hw.size
 replace hF := hF.trans hw
 clear hs hF' hw
 refine seqR_nil ?_
 refine HT.ret ?_
 obtain rfl := Option.some.inj hr
 exact ⟨.inr rfl, [R 6], ⟨rfl, trivial⟩, h6, hF⟩
def M_spec_IsFeatureVector_L0 (fu : Nat) (p0 : List Int) : Nat → Int → Option (Ex Bool Unit)
 | 0, _ => none
 | k + 1, y4 =>
  bif (decide (y4 < (p0.length : Int))) then (
   ck (inR y4 p0.length) <|
   cl true (M_spec_l1In fu (gtD p0 y4) (0 : Int) (1000 : Int)) fun x7 =>
   bif (!x7) then (
    some (Ex.ret false)
   ) else (
    ck (i64B (y4 + (1 : Int))) <|
    M_spec_IsFeatureVector_L0 fu p0 k (y4 + (1 : Int))
   )
  ) else (
   some (Ex.go ())
  )
def M_spec_IsFeatureVector (fu : Nat) (p0 : List Int) : Option Bool :=
 cl true (M_spec_IsFeatureVector_L0 fu p0 fu (0 : Int)) fun rl1 =>
 exM rl1 (fun r => some r) fun s3 =>
 some ((p0.length : Int) == (6 : Int))
theorem M_spec_IsFeatureVector_ok {fu : Nat} {A : Av} {p0 : List Int} {r : Bool} (hr : M_spec_IsFeatureVector fu p0 = some r) {w : World} {v0 : Value} (hA : AvOK A w) (h0 : Rep (eSl (eInt .i64)) A w v0 p0) :
  Calls Tryd.prog 30 #[v0] w fun e w' => ∃ v, e = .returned v ∧ (v = .bool r ∧ Fr w w') := by
 unfold M_spec_IsFeatureVector at hr
 obtain ⟨w0, hw0⟩ : ∃ w0, w0 = w := ⟨_, rfl⟩
 have hF : Fr w0 w := hw0 ▸ Fr.refl _
 rw [show Fr w = Fr w0 from hw0 ▸ rfl]
 clear hw0
 refine calls_of_HT2 [.tmp 2] Tryd.func30 Tryd.ntmps30 (by decide) rfl rfl (Nat.le_of_ble_eq_true rfl) ?_
 intro R hR
 have f_v0 := h0
 replace h0 : R 0 = v0 := hR 0 _ rfl
 clear hR
 refine HT.seq ?_
 refine HT.text (l := ⟨_, true, .raw (.bool false)⟩ :: []) (tl := []) (by kernel_rfl) (by kernel_rfl) (by kernel_rfl) ?_ ?_
 ·exact
   Obls.p (fun R' w' hw hs hd => of_assign rfl) <|
   Obls.nil
 intro R w hw hs hF'
 replace h0 := (hs 0 rfl).trans h0
 replace f_v0 := f_v0.fr hw
 replace hA := hA.fr hw.size
 replace hF := hF.trans hw
 clear hs hF' hw
 refine seqR_nil ?_
 refine HT.seq ?_
 refine HT.seq ?_
 refine HT.text (l := ⟨_, true, .raw (.int .i64 (0 : Int))⟩ :: []) (tl := []) (by kernel_rfl) (by kernel_rfl) (by kernel_rfl) ?_ ?_
 ·exact
   Obls.p (fun R' w' hw hs hd => of_assign rfl) <|
   Obls.nil
 intro R w hw hs hF'
 replace h0 := (hs 0 rfl).trans h0
 have h3 : R 3 = .int .i64 (0 : Int) := hF' 0 _ _ rfl rfl rfl
 replace f_v0 := f_v0.fr hw
 replace hA := hA.fr hw.size
 replace hF := hF.trans hw
 clear hs hF' hw
 refine seqR_nil ?_
 obtain ⟨rl1, q2, hr⟩ := cl_some hr
 replace q2 := q2 rfl
 refine HT.cut0 (fun R w => ∃ (s3 : Unit), rl1 = Ex.go s3 ∧ AvOK A w ∧ Fr w0 w ∧ R 0 = v0 ∧ Rep (eSl (eInt .i64)) A w v0 p0) ?_ ?_
 ·refine HT.block ?_
  refine HT.loop (fun k R w => ∃ (y4 : Int), M_spec_IsFeatureVector_L0 fu p0 k y4 = some rl1 ∧ AvOK A w ∧ Fr w0 w ∧ R 0 = v0 ∧ R 3 = .int .i64 y4 ∧ Rep (eSl (eInt .i64)) A w v0 p0) fu ⟨_, q2, hA, hF, h0, h3, f_v0⟩ ?_
  have hr0 := hr; clear hr q2
  rintro k R w ⟨y4, hr, hA, hF, h0, h3, f_v0⟩
  rcases k with _ | k
  ·cases (show none = some _ from hr)
  rw [M_spec_IsFeatureVector_L0] at hr
  refine HT.seq ?_
  refine HT.seq ?_
  refine HT.text (l := ⟨_, true, .raw (.int .i64 y4)⟩ :: ⟨_, true, .raw v0⟩ :: ⟨_, true, .raw (.int .i64 (p0.length : Int))⟩ :: ⟨_, true, .raw (.bool (decide (y4 < (p0.length : Int))))⟩ :: []) (tl := []) (by kernel_rfl) (by kernel_rfl) (by kernel_rfl) ?_ ?_
  ·exact
    Obls.p (fun R' w' hw hs hd => of_move ((hs 3 rfl).trans h3)) <|
    Obls.p (fun R' w' hw hs hd => of_move ((hs 0 rfl).trans h0)) <|
    Obls.p (fun R' w' hw hs hd => by have a0 : R' 5 = v0 := hd.g 0 rfl; have ra0 := (f_v0.fr hw).eq a0; exact of_len_sl (aT := #[]) ra0 Tryd.underlying22) <|
    Obls.p (fun R' w' hw hs hd => by have a0 : R' 4 = .int .i64 y4 := hd.g 0 rfl; have a1 : R' 6 = .int .i64 (p0.length : Int) := hd.g 1 rfl; exact of_lss a0 a1) <|
    Obls.nil
  intro R w hw hs hF'
  replace h0 := (hs 0 rfl).trans h0
  replace h3 := (hs 3 rfl).trans h3
  have h7 : R 7 = .bool (decide (y4 < (p0.length : Int))) := hF' 3 _ _ rfl rfl rfl
  replace f_v0 := f_v0.fr hw
  replace hA := hA.fr hw.size
  replace hF := hF.trans hw
  clear hs hF' hw
  refine seqR_nil ?_
  refine HT.cond (decide (y4 < (p0.length : Int))) h7 (fun c5 => ?_) (fun c5 => ?_)
  ·have hr := cnd_t c5 hr
   refine HT.skip ?_
   refine HT.seq ?_
   refine HT.block ?_
   refine HT.seq ?_
   obtain ⟨e6, hr⟩ := ck_some hr
   obtain ⟨x7, q8, hr⟩ := cl_some hr
   refine HT.text (l := ⟨_, true, .raw v0⟩ :: ⟨_, true, .raw (.int .i64 y4)⟩ :: ⟨_, true, .qtr (eInt .i64) A (gtD p0 y4)⟩ :: ⟨_, true, .raw (.int .i64 (gtD p0 y4))⟩ :: ⟨_, true, .raw (.bool x7)⟩ :: ⟨_, true, .raw (.bool (!x7))⟩ :: []) (tl := []) (by kernel_rfl) (by kernel_rfl) (by kernel_rfl) ?_ ?_
   ·exact
     Obls.p (fun R' w' hw hs hd => of_move ((hs 0 rfl).trans h0)) <|
     Obls.p (fun R' w' hw hs hd => of_move ((hs 3 rfl).trans h3)) <|
     Obls.p (fun R' w' hw hs hd => by have a0 : R' 10 = v0 := hd.g 0 rfl; have a1 : R' 11 = .int .i64 y4 := hd.g 1 rfl; have ra0 := (f_v0.fr hw).eq a0; exact of_indexAddr ra0 a1 Tryd.underlying22 Tryd.sizeOf3 e6) <|
     Obls.p (fun R' w' hw hs hd => by have a0 : QRep (eInt .i64) A w' (R' 12) (gtD p0 y4) := hd.g 0 rfl; exact OpF.int (of_load a0.ptr Tryd.isAgg3 Tryd.sizeOf3)) <|
     Obls.p (fun R' w' hw hs hd => by have a0 : R' 13 = .int .i64 (gtD p0 y4) := hd.g 0 rfl; exact of_call Tryd.call46 (M_spec_l1In_ok (q8 rfl) (hA.fr hw.size) a0 rfl rfl)) <|
     Obls.p (fun R' w' hw hs hd => by have a0 : R' 14 = .bool x7 := hd.g 0 rfl; exact of_not a0) <|
     Obls.nil
   intro R w hw hs hF'
   replace h0 := (hs 0 rfl).trans h0
   replace h3 := (hs 3 rfl).trans h3
   have h15 : R 15 = .bool (!x7) := hF' 5 _ _ rfl rfl rfl
   replace f_v0 := f_v0.fr hw
   replace hA := hA.fr hw.size
   replace hF := hF.trans hw
   clear hs hF' hw
   refine seqR_nil ?_
   refine HT.cond (!x7) h15 (fun c9 => ?_) (fun c9 => ?_)
   ·have hr := cnd_t c9 hr
    refine HT.seq ?_
    refine HT.text (l := ⟨_, true, .raw (.bool false)⟩ :: []) (tl := []) (by kernel_rfl) (by kernel_rfl) (by kernel_rfl) ?_ ?_
    ·exact
      Obls.p (fun R' w' hw hs hd => of_assign rfl) <|
      Obls.nil
    intro R w hw hs hF'
    have h2 : R 2 = .bool false := hF' 0 _ _ rfl rfl rfl
    replace hA := hA.fr hw.size
    replace hF := hF.trans hw
    clear hs hF' hw
    refine seqR_nil ?_
    refine HT.ret ?_
    obtain rfl := Option.some.inj hr
    have hr := hr0
    replace hr : some _ = some _ := hr
    obtain rfl := Option.some.inj hr
    exact ⟨.inr rfl, [R 2], ⟨rfl, trivial⟩, h2, hF⟩
   ·have hr := cnd_f c9 hr
    refine HT.skip ?_
    obtain ⟨e10, hr⟩ := ck_some hr
    refine HT.text (l := ⟨_, true, .raw (.int .i64 y4)⟩ :: ⟨_, true, .raw (.int .i64 (y4 + (1 : Int)))⟩ :: ⟨_, true, .raw (.int .i64 (y4 + (1 : Int)))⟩ :: []) (tl := []) (by kernel_rfl) (by kernel_rfl) (by kernel_rfl) ?_ ?_
    ·exact
      Obls.p (fun R' w' hw hs hd => of_move ((hs 3 rfl).trans h3)) <|
      Obls.p (fun R' w' hw hs hd => by have a0 : R' 8 = .int .i64 y4 := hd.g 0 rfl; exact of_add a0 rfl e10) <|
      Obls.p (fun R' w' hw hs hd => by have a0 : R' 9 = .int .i64 (y4 + (1 : Int)) := hd.g 0 rfl; exact of_assign a0) <|
      Obls.nil
    intro R w hw hs hF'
    replace h0 := (hs 0 rfl).trans h0
    have h3 : R 3 = .int .i64 (y4 + (1 : Int)) := hF' 2 _ _ rfl rfl rfl
    replace f_v0 := f_v0.fr hw
    replace hA := hA.fr hw.size
    replace hF := hF.trans hw
    clear hs hF' hw
    refine seqR_nil ?_
    exact Exists.intro k (And.intro (Nat.lt_succ_self k) ⟨_, hr, hA, hF, h0, h3, f_v0⟩)
  ·have hr := cnd_f c5 hr
   refine HT.exit ?_
   obtain rfl := Option.some.inj hr
   exact Exists.intro _ ⟨rfl, hA, hF, h0, f_v0⟩
 rintro R w ⟨s3, rfl, hA, hF, h0, f_v0⟩
 have hr := exM_go hr
 refine HT.seq ?_
 refine HT.text (l := ⟨_, true, .raw v0⟩ :: ⟨_, true, .raw (.int .i64 (p0.length : Int))⟩ :: ⟨_, true, .raw (.bool ((p0.length : Int) == (6 : Int)))⟩ :: ⟨_, true, .raw (.bool ((p0.length : Int) == (6 : Int)))⟩ :: []) (tl := []) (by kernel_rfl) (by kernel_rfl) (by kernel_rfl) ?_ ?_
 ·exact
   Obls.p (fun R' w' hw hs hd => of_move ((hs 0 rfl).trans h0)) <|
   Obls.p (fun R' w' hw hs hd => by have a0 : R' 16 = v0 := hd.g 0 rfl; have ra0 := (f_v0.fr hw).eq a0; exact of_len_sl (aT := #[]) ra0 Tryd.underlying22) <|
   Obls.p (fun R' w' hw hs hd => by have a0 : R' 17 = .int .i64 (p0.length : Int) := hd.g 0 rfl; exact of_eql a0 rfl) <|
   Obls.p (fun R' w' hw hs hd => by have a0 : R' 18 = .bool ((p0.length : Int) == (6 : Int)) := hd.g 0 rfl; exact of_assign a0) <|
   Obls.nil
 intro R w hw hs hF'
 have h2 : R 2 = .bool ((p0.length : Int) == (6 : Int)) := hF' 3 _ _ rfl rfl rfl
 replace hA := hA.fr hw.size
 replace hF := hF.trans hw
 clear hs hF' hw
 refine seqR_nil ?_
 refine HT.ret ?_
 obtain rfl := Option.some.inj hr
 exact ⟨.inr rfl, [R 2], ⟨rfl, trivial⟩, h2, hF⟩
def M_spec_FeatureName (fu : Nat) (p0 : Int) : Option (List UInt8) :=
 cl true (M_spec_l1In fu p0 (0 : Int) (5 : Int)) fun x1 =>
 bif (!x1) then (
  some ([] : List UInt8)
 ) else (
  ck (inR p0 ([([110, 97, 109, 101] : List UInt8), ([116, 111, 107, 101, 110, 115] : List UInt8), ([115, 111, 117, 110, 100] : List UInt8), ([99, 105, 116, 121] : List UInt8), ([121, 101, 97, 114] : List UInt8), ([112, 104, 111, 110, 101] : List UInt8)] : List (List UInt8)).length) <|
  some (gtD ([([110, 97, 109, 101] : List UInt8), ([116, 111, 107, 101, 110, 115] : List UInt8), ([115, 111, 117, 110, 100] : List UInt8), ([99, 105, 116, 121] : List UInt8), ([121, 101, 97, 114] : List UInt8), ([112, 104, 111, 110, 101] : List UInt8)] : List (List UInt8)) p0)
 )
theorem M_spec_FeatureName_ok {fu : Nat} {A : Av} {p0 : Int} {r : List UInt8} (hr : M_spec_FeatureName fu p0 = some r) {w : World} {v0 : Value} (hA : AvOK A w) (h0 : v0 = .int .i64 p0) :
  Calls Tryd.prog 31 #[v0] w fun e w' => ∃ v, e = .returned v ∧ (Rep eStr A w' v r ∧ Fr w w') := by
 unfold M_spec_FeatureName at hr
 obtain ⟨w0, hw0⟩ : ∃ w0, w0 = w := ⟨_, rfl⟩
 have hF : Fr w0 w := hw0 ▸ Fr.refl _
 rw [show Fr w = Fr w0 from hw0 ▸ rfl]
 clear hw0
 refine calls_of_HT2 [.tmp 2] Tryd.func31 Tryd.ntmps31 (by decide) rfl rfl (Nat.le_of_ble_eq_true rfl) ?_
 intro R hR
 replace h0 : R 0 = .int .i64 p0 := (hR 0 _ rfl).trans h0
 clear hR
 refine HT.seq ?_
 refine HT.text (l := ⟨_, true, .rep eStr A ([] : List UInt8)⟩ :: []) (tl := []) (by kernel_rfl) (by kernel_rfl) (by kernel_rfl) ?_ ?_
 ·exact
   Obls.p (fun R' w' hw hs hd => of_assign ⟨_, rfl, ⟨_, rfl, rfl, by decide⟩⟩) <|
   Obls.nil
 intro R w hw hs hF'
 replace h0 := (hs 0 rfl).trans h0
 replace hA := hA.fr hw.size
 replace hF := hF.trans hw
 clear hs hF' hw
 refine seqR_nil ?_
 refine HT.seq ?_
 refine HT.seq ?_
 obtain ⟨x1, q2, hr⟩ := cl_some hr
 refine HT.text (l := ⟨_, true, .raw (.int .i64 p0)⟩ :: ⟨_, true, .raw (.bool x1)⟩ :: ⟨_, true, .raw (.bool (!x1))⟩ :: []) (tl := []) (by kernel_rfl) (by kernel_rfl) (by kernel_rfl) ?_ ?_
 ·exact
   Obls.p (fun R' w' hw hs hd => of_move ((hs 0 rfl).trans h0)) <|
   Obls.p (fun R' w' hw hs hd => by have a0 : R' 3 = .int .i64 p0 := hd.g 0 rfl; exact of_call Tryd.call46 (M_spec_l1In_ok (q2 rfl) (hA.fr hw.size) a0 rfl rfl)) <|
   Obls.p (fun R' w' hw hs hd => by have a0 : R' 4 = .bool x1 := hd.g 0 rfl; exact of_not a0) <|
   Obls.nil
 intro R w hw hs hF'
 replace h0 := (hs 0 rfl).trans h0
 have h5 : R 5 = .bool (!x1) := hF' 2 _ _ rfl rfl rfl
 replace hA := hA.fr hw.size
 replace hF := hF.trans hw
 clear hs hF' hw
 refine seqR_nil ?_
 refine HT.cond (!x1) h5 (fun c3 => ?_) (fun c3 => ?_)
 ·have hr := cnd_t c3 hr
  refine HT.seq ?_
  refine HT.text (l := ⟨_, true, .rep eStr A ([] : List UInt8)⟩ :: []) (tl := []) (by kernel_rfl) (by kernel_rfl) (by kernel_rfl) ?_ ?_
  ·exact
    Obls.p (fun R' w' hw hs hd => of_assign ⟨_, rfl, ⟨_, rfl, rfl, by decide⟩⟩) <|
    Obls.nil
  intro R w hw hs hF'
  obtain ⟨u4, h2, f_u4⟩ : ∃ u, R 2 = u ∧ Rep eStr A w u ([] : List UInt8) := ⟨_, rfl, hF' 0 _ _ rfl rfl rfl⟩
  replace hA := hA.fr hw.size
  replace hF := hF.trans hw
  clear hs hF' hw
  refine seqR_nil ?_
  refine HT.ret ?_
  obtain rfl := Option.some.inj hr
  exact ⟨.inr rfl, [R 2], ⟨rfl, trivial⟩, (f_u4.eq h2), hF⟩
 ·have hr := cnd_f c3 hr
  refine HT.skip ?_
  refine HT.seq ?_
  obtain ⟨e5, hr⟩ := ck_some hr
  refine HT.text (l := ⟨_, true, .rep (eSl eStr) A ([([110, 97, 109, 101] : List UInt8), ([116, 111, 107, 101, 110, 115] : List UInt8), ([115, 111, 117, 110, 100] : List UInt8), ([99, 105, 116, 121] : List UInt8), ([121, 101, 97, 114] : List UInt8), ([112, 104, 111, 110, 101] : List UInt8)] : List (List UInt8))⟩ :: ⟨_, true, .raw (.int .i64 p0)⟩ :: ⟨_, true, .qtr eStr A (gtD ([([110, 97, 109, 101] : List UInt8), ([116, 111, 107, 101, 110, 115] : List UInt8), ([115, 111, 117, 110, 100] : List UInt8), ([99, 105, 116, 121] : List UInt8), ([121, 101, 97, 114] : List UInt8), ([112, 104, 111, 110, 101] : List UInt8)] : List (List UInt8)) p0)⟩ :: ⟨_, true, .rep eStr A (gtD ([([110, 97, 109, 101] : List UInt8), ([116, 111, 107, 101, 110, 115] : List UInt8), ([115, 111, 117, 110, 100] : List UInt8), ([99, 105, 116, 121] : List UInt8), ([121, 101, 97, 114] : List UInt8), ([112, 104, 111, 110, 101] : List UInt8)] : List (List UInt8)) p0)⟩ :: ⟨_, true, .rep eStr A (gtD ([([110, 97, 109, 101] : List UInt8), ([116, 111, 107, 101, 110, 115] : List UInt8), ([115, 111, 117, 110, 100] : List UInt8), ([99, 105, 116, 121] : List UInt8), ([121, 101, 97, 114] : List UInt8), ([112, 104, 111, 110, 101] : List UInt8)] : List (List UInt8)) p0)⟩ :: []) (tl := []) (by kernel_rfl) (by kernel_rfl) (by kernel_rfl) ?_ ?_
  ·exact
    Obls.p (fun R' w' hw hs hd => of_build [_, _, _, _, _, _] (E := eStr) ⟨⟨_, rfl, ⟨_, rfl, rfl, by decide⟩⟩, ⟨⟨_, rfl, ⟨_, rfl, rfl, by decide⟩⟩, ⟨⟨_, rfl, ⟨_, rfl, rfl, by decide⟩⟩, ⟨⟨_, rfl, ⟨_, rfl, rfl, by decide⟩⟩, ⟨⟨_, rfl, ⟨_, rfl, rfl, by decide⟩⟩, ⟨⟨_, rfl, ⟨_, rfl, rfl, by decide⟩⟩, trivial⟩⟩⟩⟩⟩⟩ Tryd.underlying35 Tryd.sizeOf9 Tryd.zeroValue9 rfl rfl rfl (hA.fr hw.size)) <|
    Obls.p (fun R' w' hw hs hd => of_move ((hs 0 rfl).trans h0)) <|
    Obls.p (fun R' w' hw hs hd => by have a0 : Rep (eSl eStr) A w' (R' 6) ([([110, 97, 109, 101] : List UInt8), ([116, 111, 107, 101, 110, 115] : List UInt8), ([115, 111, 117, 110, 100] : List UInt8), ([99, 105, 116, 121] : List UInt8), ([121, 101, 97, 114] : List UInt8), ([112, 104, 111, 110, 101] : List UInt8)] : List (List UInt8)) := hd.g 0 rfl; have a1 : R' 7 = .int .i64 p0 := hd.g 1 rfl; exact of_indexAddr a0 a1 Tryd.underlying35 Tryd.sizeOf9 e5) <|
    Obls.p (fun R' w' hw hs hd => by have a0 : QRep eStr A w' (R' 8) (gtD ([([110, 97, 109, 101] : List UInt8), ([116, 111, 107, 101, 110, 115] : List UInt8), ([115, 111, 117, 110, 100] : List UInt8), ([99, 105, 116, 121] : List UInt8), ([121, 101, 97, 114] : List UInt8), ([112, 104, 111, 110, 101] : List UInt8)] : List (List UInt8)) p0) := hd.g 0 rfl; exact (of_load a0.ptr Tryd.isAgg9 Tryd.sizeOf9)) <|
    Obls.p (fun R' w' hw hs hd => by have a0 : Rep eStr A w' (R' 9) (gtD ([([110, 97, 109, 101] : List UInt8), ([116, 111, 107, 101, 110, 115] : List UInt8), ([115, 111, 117, 110, 100] : List UInt8), ([99, 105, 116, 121] : List UInt8), ([121, 101, 97, 114] : List UInt8), ([112, 104, 111, 110, 101] : List UInt8)] : List (List UInt8)) p0) := hd.g 0 rfl; exact of_assign a0) <|
    Obls.nil
  intro R w hw hs hF'
  obtain ⟨u6, h2, f_u6⟩ : ∃ u, R 2 = u ∧ Rep eStr A w u (gtD ([([110, 97, 109, 101] : List UInt8), ([116, 111, 107, 101, 110, 115] : List UInt8), ([115, 111, 117, 110, 100] : List UInt8), ([99, 105, 116, 121] : List UInt8), ([121, 101, 97, 114] : List UInt8), ([112, 104, 111, 110, 101] : List UInt8)] : List (List UInt8)) p0) := ⟨_, rfl, hF' 4 _ _ rfl rfl rfl⟩
  replace hA := hA.fr hw.size
  replace hF := hF.trans hw
  clear hs hF' hw
  refine seqR_nil ?_
  refine HT.ret ?_
  obtain rfl := Option.some.inj hr
  exact ⟨.inr rfl, [R 2], ⟨rfl, trivial⟩, (f_u6.eq h2), hF⟩
def M_spec_FormatFeatures_L0 (fu : Nat) (p0 : List Int) : Nat → (List UInt8) → Int → Option (List UInt8)
 | 0, _, _ => none
 | k + 1, y9, y10 =>
  bif (decide (y10 < (p0.length : Int))) then (
   bif (decide ((0 : Int) < y10)) then (
    ck (lenOK (y9 ++ ([32] : List UInt8)).length) <|
    cl true (M_spec_FeatureName fu y10) fun x15 =>
    ck (lenOK ((y9 ++ ([32] : List UInt8)) ++ x15).length) <|
    ck (lenOK (((y9 ++ ([32] : List UInt8)) ++ x15) ++ ([61] : List UInt8)).length) <|
    ck (inR y10 p0.length) <|
    cl true (M_spec_FormatInt fu (gtD p0 y10)) fun x20 =>
    ck (lenOK ((((y9 ++ ([32] : List UInt8)) ++ x15) ++ ([61] : List UInt8)) ++ x20).length) <|
    ck (i64B (y10 + (1 : Int))) <|
    M_spec_FormatFeatures_L0 fu p0 k ((((y9 ++ ([32] : List UInt8)) ++ x15) ++ ([61] : List UInt8)) ++ x20) (y10 + (1 : Int))
   ) else (
    cl true (M_spec_FeatureName fu y10) fun x25 =>
    ck (lenOK (y9 ++ x25).length) <|
    ck (lenOK ((y9 ++ x25) ++ ([61] : List UInt8)).length) <|
    ck (inR y10 p0.length) <|
    cl true (M_spec_FormatInt fu (gtD p0 y10)) fun x30 =>
    ck (lenOK (((y9 ++ x25) ++ ([61] : List UInt8)) ++ x30).length) <|
    ck (i64B (y10 + (1 : Int))) <|
    M_spec_FormatFeatures_L0 fu p0 k (((y9 ++ x25) ++ ([61] : List UInt8)) ++ x30) (y10 + (1 : Int))
   )
  ) else (
   some y9
  )
def M_spec_FormatFeatures (fu : Nat) (p0 : List Int) : Option (List UInt8) :=
 cl true (M_spec_IsFeatureVector fu p0) fun x1 =>
 bif (!x1) then (
  some ([] : List UInt8)
 ) else (
  cl true (M_spec_FormatFeatures_L0 fu p0 fu ([] : List UInt8) (0 : Int)) fun s8 =>
  some s8
 )
theorem M_spec_FormatFeatures_ok {fu : Nat} {A : Av} {p0 : List Int} {r : List UInt8} (hr : M_spec_FormatFeatures fu p0 = some r) {w : World} {v0 : Value} (hA : AvOK A w) (h0 : Rep (eSl (eInt .i64)) A w v0 p0) :
  Calls Tryd.prog 17 #[v0] w fun e w' => ∃ v, e = .returned v ∧ (Rep eStr A w' v r ∧ Fr w w') := by
 unfold M_spec_FormatFeatures at hr
 obtain ⟨w0, hw0⟩ : ∃ w0, w0 = w := ⟨_, rfl⟩
 have hF : Fr w0 w := hw0 ▸ Fr.refl _
 rw [show Fr w = Fr w0 from hw0 ▸ rfl]
 clear hw0
 refine calls_of_HT2 [.tmp 2] Tryd.func17 Tryd.ntmps17 (by decide) rfl rfl (Nat.le_of_ble_eq_true rfl) ?_
 intro R hR
 have f_v0 := h0
 replace h0 : R 0 = v0 := hR 0 _ rfl
 clear hR
 refine HT.seq ?_
 refine HT.text (l := ⟨_, true, .rep eStr A ([] : List UInt8)⟩ :: []) (tl := []) (by kernel_rfl) (by kernel_rfl) (by kernel_rfl) ?_ ?_
 ·exact
   Obls.p (fun R' w' hw hs hd => of_assign ⟨_, rfl, ⟨_, rfl, rfl, by decide⟩⟩) <|
   Obls.nil
 intro R w hw hs hF'
 replace h0 := (hs 0 rfl).trans h0
 replace f_v0 := f_v0.fr hw
 replace hA := hA.fr hw.size
 replace hF := hF.trans hw
 clear hs hF' hw
 refine seqR_nil ?_
 refine HT.seq ?_
 refine HT.seq ?_
 obtain ⟨x1, q2, hr⟩ := cl_some hr
 refine HT.text (l := ⟨_, true, .raw v0⟩ :: ⟨_, true, .raw (.bool x1)⟩ :: ⟨_, true, .raw (.bool (!x1))⟩ :: []) (tl := []) (by kernel_rfl) (by kernel_rfl) (by kernel_rfl) ?_ ?_
 ·exact
   Obls.p (fun R' w' hw hs hd => of_move ((hs 0 rfl).trans h0)) <|
   Obls.p (fun R' w' hw hs hd => by have a0 : R' 5 = v0 := hd.g 0 rfl; have ra0 := (f_v0.fr hw).eq a0; exact of_call Tryd.call30 (M_spec_IsFeatureVector_ok (q2 rfl) (hA.fr hw.size) ra0)) <|
   Obls.p (fun R' w' hw hs hd => by have a0 : R' 6 = .bool x1 := hd.g 0 rfl; exact of_not a0) <|
   Obls.nil
 intro R w hw hs hF'
 replace h0 := (hs 0 rfl).trans h0
 have h7 : R 7 = .bool (!x1) := hF' 2 _ _ rfl rfl rfl
 replace f_v0 := f_v0.fr hw
 replace hA := hA.fr hw.size
 replace hF := hF.trans hw
 clear hs hF' hw
 refine seqR_nil ?_
 refine HT.cond (!x1) h7 (fun c3 => ?_) (fun c3 => ?_)
 ·have hr := cnd_t c3 hr
  refine HT.seq ?_
  refine HT.text (l := ⟨_, true, .rep eStr A ([] : List UInt8)⟩ :: []) (tl := []) (by kernel_rfl) (by kernel_rfl) (by kernel_rfl) ?_ ?_
  ·exact
    Obls.p (fun R' w' hw hs hd => of_assign ⟨_, rfl, ⟨_, rfl, rfl, by decide⟩⟩) <|
    Obls.nil
  intro R w hw hs hF'
  obtain ⟨u4, h2, f_u4⟩ : ∃ u, R 2 = u ∧ Rep eStr A w u ([] : List UInt8) := ⟨_, rfl, hF' 0 _ _ rfl rfl rfl⟩
  replace hA := hA.fr hw.size
  replace hF := hF.trans hw
  clear hs hF' hw
  refine seqR_nil ?_
  refine HT.ret ?_
  obtain rfl := Option.some.inj hr
  exact ⟨.inr rfl, [R 2], ⟨rfl, trivial⟩, (f_u4.eq h2), hF⟩
 ·have hr := cnd_f c3 hr
  refine HT.skip ?_
  refine HT.seq ?_
  refine HT.text (l := ⟨_, true, .rep eStr A ([] : List UInt8)⟩ :: []) (tl := []) (by kernel_rfl) (by kernel_rfl) (by kernel_rfl) ?_ ?_
  ·exact
    Obls.p (fun R' w' hw hs hd => of_assign ⟨_, rfl, ⟨_, rfl, rfl, by decide⟩⟩) <|
    Obls.nil
  intro R w hw hs hF'
  replace h0 := (hs 0 rfl).trans h0
  obtain ⟨u5, h3, f_u5⟩ : ∃ u, R 3 = u ∧ Rep eStr A w u ([] : List UInt8) := ⟨_, rfl, hF' 0 _ _ rfl rfl rfl⟩
  replace f_v0 := f_v0.fr hw
  replace hA := hA.fr hw.size
  replace hF := hF.trans hw
  clear hs hF' hw
  refine seqR_nil ?_
  refine HT.seq ?_
  refine HT.seq ?_
  refine HT.text (l := ⟨_, true, .raw (.int .i64 (0 : Int))⟩ :: []) (tl := []) (by kernel_rfl) (by kernel_rfl) (by kernel_rfl) ?_ ?_
  ·exact
    Obls.p (fun R' w' hw hs hd => of_assign rfl) <|
    Obls.nil
  intro R w hw hs hF'
  replace h0 := (hs 0 rfl).trans h0
  replace h3 := (hs 3 rfl).trans h3
  have h4 : R 4 = .int .i64 (0 : Int) := hF' 0 _ _ rfl rfl rfl
  replace f_u5 := f_u5.fr hw
  replace f_v0 := f_v0.fr hw
  replace hA := hA.fr hw.size
  replace hF := hF.trans hw
  clear hs hF' hw
  refine seqR_nil ?_
  obtain ⟨rl6, q7, hr⟩ := cl_some hr
  replace q7 := q7 rfl
  refine HT.cut0 (fun R w => ∃ (s8 : (List UInt8)) (wo_3 : Value), rl6 = s8 ∧ AvOK A w ∧ Fr w0 w ∧ R 3 = wo_3 ∧ Rep eStr A w wo_3 s8) ?_ ?_
  ·refine HT.block ?_
   refine HT.loop (fun k R w => ∃ (y9 : List UInt8) (y10 : Int) (wl_3 : Value), M_spec_FormatFeatures_L0 fu p0 k y9 y10 = some rl6 ∧ AvOK A w ∧ Fr w0 w ∧ R 0 = v0 ∧ R 3 = wl_3 ∧ R 4 = .int .i64 y10 ∧ Rep (eSl (eInt .i64)) A w v0 p0 ∧ Rep eStr A w wl_3 y9) fu ⟨_, _, u5, q7, hA, hF, h0, h3, h4, f_v0, f_u5⟩ ?_
   have hr0 := hr; clear hr q7
   rintro k R w ⟨y9, y10, wl_3, hr, hA, hF, h0, h3, h4, f_v0, f_wl_3⟩
   rcases k with _ | k
   ·cases (show none = some _ from hr)
   rw [M_spec_FormatFeatures_L0] at hr
   refine HT.seq ?_
   refine HT.seq ?_
   refine HT.text (l := ⟨_, true, .raw (.int .i64 y10)⟩ :: ⟨_, true, .raw v0⟩ :: ⟨_, true, .raw (.int .i64 (p0.length : Int))⟩ :: ⟨_, true, .raw (.bool (decide (y10 < (p0.length : Int))))⟩ :: []) (tl := []) (by kernel_rfl) (by kernel_rfl) (by kernel_rfl) ?_ ?_
   ·exact
     Obls.p (fun R' w' hw hs hd => of_move ((hs 4 rfl).trans h4)) <|
     Obls.p (fun R' w' hw hs hd => of_move ((hs 0 rfl).trans h0)) <|
     Obls.p (fun R' w' hw hs hd => by have a0 : R' 9 = v0 := hd.g 0 rfl; have ra0 := (f_v0.fr hw).eq a0; exact of_len_sl (aT := #[]) ra0 Tryd.underlying22) <|
     Obls.p (fun R' w' hw hs hd => by have a0 : R' 8 = .int .i64 y10 := hd.g 0 rfl; have a1 : R' 10 = .int .i64 (p0.length : Int) := hd.g 1 rfl; exact of_lss a0 a1) <|
     Obls.nil
   intro R w hw hs hF'
   replace h0 := (hs 0 rfl).trans h0
   replace h3 := (hs 3 rfl).trans h3
   replace h4 := (hs 4 rfl).trans h4
   have h11 : R 11 = .bool (decide (y10 < (p0.length : Int))) := hF' 3 _ _ rfl rfl rfl
   replace f_v0 := f_v0.fr hw
   replace f_wl_3 := f_wl_3.fr hw
   replace hA := hA.fr hw.size
   replace hF := hF.trans hw
   clear hs hF' hw
   refine seqR_nil ?_
   refine HT.cond (decide (y10 < (p0.length : Int))) h11 (fun c11 => ?_) (fun c11 => ?_)
   ·have hr := cnd_t c11 hr
    refine HT.skip ?_
    refine HT.seq ?_
    refine HT.block ?_
    refine HT.seq ?_
    refine HT.seq ?_
    refine HT.text (l := ⟨_, true, .raw (.int .i64 y10)⟩ :: ⟨_, true, .raw (.bool (decide ((0 : Int) < y10)))⟩ :: []) (tl := []) (by kernel_rfl) (by kernel_rfl) (by kernel_rfl) ?_ ?_
    ·exact
      Obls.p (fun R' w' hw hs hd => of_move ((hs 4 rfl).trans h4)) <|
      Obls.p (fun R' w' hw hs hd => by have a0 : R' 14 = .int .i64 y10 := hd.g 0 rfl; exact of_gtr a0 rfl) <|
      Obls.nil
    intro R w hw hs hF'
    replace h0 := (hs 0 rfl).trans h0
    replace h3 := (hs 3 rfl).trans h3
    replace h4 := (hs 4 rfl).trans h4
    have h15 : R 15 = .bool (decide ((0 : Int) < y10)) := hF' 1 _ _ rfl rfl rfl
    replace f_v0 := f_v0.fr hw
    replace f_wl_3 := f_wl_3.fr hw
    replace hA := hA.fr hw.size
    replace hF := hF.trans hw
    clear hs hF' hw
    refine seqR_nil ?_
    refine HT.cond (decide ((0 : Int) < y10)) h15 (fun c12 => ?_) (fun c12 => ?_)
    ·have hr := cnd_t c12 hr
     obtain ⟨e13, hr⟩ := ck_some hr
     refine HT.text (l := ⟨_, true, .raw wl_3⟩ :: ⟨_, true, .rep eStr A (y9 ++ ([32] : List UInt8))⟩ :: ⟨_, true, .rep eStr A (y9 ++ ([32] : List UInt8))⟩ :: []) (tl := []) (by kernel_rfl) (by kernel_rfl) (by kernel_rfl) ?_ ?_
     ·exact
       Obls.p (fun R' w' hw hs hd => of_move ((hs 3 rfl).trans h3)) <|
       Obls.p (fun R' w' hw hs hd => by have a0 : R' 16 = wl_3 := hd.g 0 rfl; have ra0 := (f_wl_3.fr hw).eq a0; exact of_cat ra0 ⟨_, rfl, ⟨_, rfl, rfl, by decide⟩⟩ e13) <|
       Obls.p (fun R' w' hw hs hd => by have a0 : Rep eStr A w' (R' 17) (y9 ++ ([32] : List UInt8)) := hd.g 0 rfl; exact of_assign a0) <|
       Obls.nil
     intro R w hw hs hF'
     replace h0 := (hs 0 rfl).trans h0
     replace h4 := (hs 4 rfl).trans h4
     obtain ⟨u14, h3, f_u14⟩ : ∃ u, R 3 = u ∧ Rep eStr A w u (y9 ++ ([32] : List UInt8)) := ⟨_, rfl, hF' 2 _ _ rfl rfl rfl⟩
     replace f_v0 := f_v0.fr hw
     replace hA := hA.fr hw.size
     replace hF := hF.trans hw
     clear hs hF' hw
     refine seqR_nil ?_
     obtain ⟨x15, q16, hr⟩ := cl_some hr
     obtain ⟨e17, hr⟩ := ck_some hr
     obtain ⟨e18, hr⟩ := ck_some hr
     obtain ⟨e19, hr⟩ := ck_some hr
     obtain ⟨x20, q21, hr⟩ := cl_some hr
     obtain ⟨e22, hr⟩ := ck_some hr
     refine HT.draw (by kernel_rfl) (l := ⟨_, true, .raw u14⟩ :: ⟨_, true, .raw (.int .i64 y10)⟩ :: ⟨_, true, .rep eStr A x15⟩ :: ⟨_, true, .rep eStr A ((y9 ++ ([32] : List UInt8)) ++ x15)⟩ :: ⟨_, true, .rep eStr A (((y9 ++ ([32] : List UInt8)) ++ x15) ++ ([61] : List UInt8))⟩ :: ⟨_, true, .raw v0⟩ :: ⟨_, true, .raw (.int .i64 y10)⟩ :: ⟨_, true, .qtr (eInt .i64) A (gtD p0 y10)⟩ :: ⟨_, true, .raw (.int .i64 (gtD p0 y10))⟩ :: ⟨_, true, .rep eStr A x20⟩ :: ⟨_, true, .rep eStr A ((((y9 ++ ([32] : List UInt8)) ++ x15) ++ ([61] : List UInt8)) ++ x20)⟩ :: ⟨_, true, .rep eStr A ((((y9 ++ ([32] : List UInt8)) ++ x15) ++ ([61] : List UInt8)) ++ x20)⟩ :: []) (tl := []) (by kernel_rfl) (by kernel_rfl) (by kernel_rfl) (by kernel_rfl) ?_ ?_
     ·exact
       Obls.p (fun R' w' hw hs hd => of_move ((hs 3 rfl).trans h3)) <|
       Obls.p (fun R' w' hw hs hd => of_move ((hs 4 rfl).trans h4)) <|
       Obls.p (fun R' w' hw hs hd => by have a0 : R' 19 = .int .i64 y10 := hd.g 0 rfl; exact of_call Tryd.call31 (M_spec_FeatureName_ok (q16 rfl) (hA.fr hw.size) a0)) <|
       Obls.p (fun R' w' hw hs hd => by have a0 : R' 18 = u14 := hd.g 0 rfl; have ra0 := (f_u14.fr hw).eq a0; have a1 : Rep eStr A w' (R' 20) x15 := hd.g 1 rfl; exact of_cat ra0 a1 e17) <|
       Obls.p (fun R' w' hw hs hd => by have a0 : Rep eStr A w' (R' 21) ((y9 ++ ([32] : List UInt8)) ++ x15) := hd.g 0 rfl; exact of_cat a0 ⟨_, rfl, ⟨_, rfl, rfl, by decide⟩⟩ e18) <|
       Obls.p (fun R' w' hw hs hd => of_move ((hs 0 rfl).trans h0)) <|
       Obls.p (fun R' w' hw hs hd => of_move ((hs 4 rfl).trans h4)) <|
       Obls.p (fun R' w' hw hs hd => by have a0 : R' 23 = v0 := hd.g 0 rfl; have a1 : R' 24 = .int .i64 y10 := hd.g 1 rfl; have ra0 := (f_v0.fr hw).eq a0; exact of_indexAddr ra0 a1 Tryd.underlying22 Tryd.sizeOf3 e19) <|
       Obls.p (fun R' w' hw hs hd => by have a0 : QRep (eInt .i64) A w' (R' 25) (gtD p0 y10) := hd.g 0 rfl; exact OpF.int (of_load a0.ptr Tryd.isAgg3 Tryd.sizeOf3)) <|
       Obls.p (fun R' w' hw hs hd => by have a0 : R' 26 = .int .i64 (gtD p0 y10) := hd.g 0 rfl; exact of_call Tryd.call29 (M_spec_FormatInt_ok (q21 rfl) (hA.fr hw.size) a0)) <|
       Obls.p (fun R' w' hw hs hd => by have a0 : Rep eStr A w' (R' 22) (((y9 ++ ([32] : List UInt8)) ++ x15) ++ ([61] : List UInt8)) := hd.g 0 rfl; have a1 : Rep eStr A w' (R' 27) x20 := hd.g 1 rfl; exact of_cat a0 a1 e22) <|
       Obls.p (fun R' w' hw hs hd => by have a0 : Rep eStr A w' (R' 28) ((((y9 ++ ([32] : List UInt8)) ++ x15) ++ ([61] : List UInt8)) ++ x20) := hd.g 0 rfl; exact of_assign a0) <|
       Obls.nil
     intro R w hw hs hF'
     replace h0 := (hs 0 rfl).trans h0
     replace h4 := (hs 4 rfl).trans h4
     obtain ⟨u23, h3, f_u23⟩ : ∃ u, R 3 = u ∧ Rep eStr A w u ((((y9 ++ ([32] : List UInt8)) ++ x15) ++ ([61] : List UInt8)) ++ x20) := ⟨_, rfl, hF' 11 _ _ rfl rfl rfl⟩
     replace f_v0 := f_v0.fr hw
     replace hA := hA.fr hw.size
     replace hF := hF.trans hw
     clear hs hF' hw
     refine seqR_nil ?_
     obtain ⟨e24, hr⟩ := ck_some hr
     refine HT.text (l := ⟨_, true, .raw (.int .i64 y10)⟩ :: ⟨_, true, .raw (.int .i64 (y10 + (1 : Int)))⟩ :: ⟨_, true, .raw (.int .i64 (y10 + (1 : Int)))⟩ :: []) (tl := []) (by kernel_rfl) (by kernel_rfl) (by kernel_rfl) ?_ ?_
     ·exact
       Obls.p (fun R' w' hw hs hd => of_move ((hs 4 rfl).trans h4)) <|
       Obls.p (fun R' w' hw hs hd => by have a0 : R' 12 = .int .i64 y10 := hd.g 0 rfl; exact of_add a0 rfl e24) <|
       Obls.p (fun R' w' hw hs hd => by have a0 : R' 13 = .int .i64 (y10 + (1 : Int)) := hd.g 0 rfl; exact of_assign a0) <|
       Obls.nil
     intro R w hw hs hF'
     replace h0 := (hs 0 rfl).trans h0
     replace h3 := (hs 3 rfl).trans h3
     have h4 : R 4 = .int .i64 (y10 + (1 : Int)) := hF' 2 _ _ rfl rfl rfl
     replace f_u23 := f_u23.fr hw
     replace f_v0 := f_v0.fr hw
     replace hA := hA.fr hw.size
     replace hF := hF.trans hw
     clear hs hF' hw
     refine seqR_nil ?_
     exact Exists.intro k (And.intro (Nat.lt_succ_self k) ⟨_, _, u23, hr, hA, hF, h0, h3, h4, f_v0, f_u23⟩)
    ·have hr := cnd_f c12 hr
     refine HT.skip ?_
     obtain ⟨x25, q26, hr⟩ := cl_some hr
     obtain ⟨e27, hr⟩ := ck_some hr
     obtain ⟨e28, hr⟩ := ck_some hr
     obtain ⟨e29, hr⟩ := ck_some hr
     obtain ⟨x30, q31, hr⟩ := cl_some hr
     obtain ⟨e32, hr⟩ := ck_some hr
     refine HT.draw (by kernel_rfl) (l := ⟨_, true, .raw wl_3⟩ :: ⟨_, true, .raw (.int .i64 y10)⟩ :: ⟨_, true, .rep eStr A x25⟩ :: ⟨_, true, .rep eStr A (y9 ++ x25)⟩ :: ⟨_, true, .rep eStr A ((y9 ++ x25) ++ ([61] : List UInt8))⟩ :: ⟨_, true, .raw v0⟩ :: ⟨_, true, .raw (.int .i64 y10)⟩ :: ⟨_, true, .qtr (eInt .i64) A (gtD p0 y10)⟩ :: ⟨_, true, .raw (.int .i64 (gtD p0 y10))⟩ :: ⟨_, true, .rep eStr A x30⟩ :: ⟨_, true, .rep eStr A (((y9 ++ x25) ++ ([61] : List UInt8)) ++ x30)⟩ :: ⟨_, true, .rep eStr A (((y9 ++ x25) ++ ([61] : List UInt8)) ++ x30)⟩ :: []) (tl := []) (by kernel_rfl) (by kernel_rfl) (by kernel_rfl) (by kernel_rfl) ?_ ?_
     ·exact
       Obls.p (fun R' w' hw hs hd => of_move ((hs 3 rfl).trans h3)) <|
       Obls.p (fun R' w' hw hs hd => of_move ((hs 4 rfl).trans h4)) <|
       Obls.p (fun R' w' hw hs hd => by have a0 : R' 19 = .int .i64 y10 := hd.g 0 rfl; exact of_call Tryd.call31 (M_spec_FeatureName_ok (q26 rfl) (hA.fr hw.size) a0)) <|
       Obls.p (fun R' w' hw hs hd => by have a0 : R' 18 = wl_3 := hd.g 0 rfl; have ra0 := (f_wl_3.fr hw).eq a0; have a1 : Rep eStr A w' (R' 20) x25 := hd.g 1 rfl; exact of_cat ra0 a1 e27) <|
       Obls.p (fun R' w' hw hs hd => by have a0 : Rep eStr A w' (R' 21) (y9 ++ x25) := hd.g 0 rfl; exact of_cat a0 ⟨_, rfl, ⟨_, rfl, rfl, by decide⟩⟩ e28) <|
       Obls.p (fun R' w' hw hs hd => of_move ((hs 0 rfl).trans h0)) <|
       Obls.p (fun R' w' hw hs hd => of_move ((hs 4 rfl).trans h4)) <|
       Obls.p (fun R' w' hw hs hd => by have a0 : R' 23 = v0 := hd.g 0 rfl; have a1 : R' 24 = .int .i64 y10 := hd.g 1 rfl; have ra0 := (f_v0.fr hw).eq a0; exact of_indexAddr ra0 a1 Tryd.underlying22 Tryd.sizeOf3 e29) <|
       Obls.p (fun R' w' hw hs hd => by have a0 : QRep (eInt .i64) A w' (R' 25) (gtD p0 y10) := hd.g 0 rfl; exact OpF.int (of_load a0.ptr Tryd.isAgg3 Tryd.sizeOf3)) <|
       Obls.p (fun R' w' hw hs hd => by have a0 : R' 26 = .int .i64 (gtD p0 y10) := hd.g 0 rfl; exact of_call Tryd.call29 (M_spec_FormatInt_ok (q31 rfl) (hA.fr hw.size) a0)) <|
       Obls.p (fun R' w' hw hs hd => by have a0 : Rep eStr A w' (R' 22) ((y9 ++ x25) ++ ([61] : List UInt8)) := hd.g 0 rfl; have a1 : Rep eStr A w' (R' 27) x30 := hd.g 1 rfl; exact of_cat a0 a1 e32) <|
       Obls.p (fun R' w' hw hs hd => by have a0 : Rep eStr A w' (R' 28) (((y9 ++ x25) ++ ([61] : List UInt8)) ++ x30) := hd.g 0 rfl; exact of_assign a0) <|
       Obls.nil
     intro R w hw hs hF'
     replace h0 := (hs 0 rfl).trans h0
     replace h4 := (hs 4 rfl).trans h4
     obtain ⟨u33, h3, f_u33⟩ : ∃ u, R 3 = u ∧ Rep eStr A w u (((y9 ++ x25) ++ ([61] : List UInt8)) ++ x30) := ⟨_, rfl, hF' 11 _ _ rfl rfl rfl⟩
     replace f_v0 := f_v0.fr hw
     replace hA := hA.fr hw.size
     replace hF := hF.trans hw
     clear hs hF' hw
     refine seqR_nil ?_
     obtain ⟨e34, hr⟩ := ck_some hr
     refine HT.text (l := ⟨_, true, .raw (.int .i64 y10)⟩ :: ⟨_, true, .raw (.int .i64 (y10 + (1 : Int)))⟩ :: ⟨_, true, .raw (.int .i64 (y10 + (1 : Int)))⟩ :: []) (tl := []) (by kernel_rfl) (by kernel_rfl) (by kernel_rfl) ?_ ?_
     ·exact
       Obls.p (fun R' w' hw hs hd => of_move ((hs 4 rfl).trans h4)) <|
       Obls.p (fun R' w' hw hs hd => by have a0 : R' 12 = .int .i64 y10 := hd.g 0 rfl; exact of_add a0 rfl e34) <|
       Obls.p (fun R' w' hw hs hd => by have a0 : R' 13 = .int .i64 (y10 + (1 : Int)) := hd.g 0 rfl; exact of_assign a0) <|
       Obls.nil
     intro R w hw hs hF'
     replace h0 := (hs 0 rfl).trans h0
     replace h3 := (hs 3 rfl).trans h3
     have h4 : R 4 = .int .i64 (y10 + (1 : Int)) := hF' 2 _ _ rfl rfl rfl
     replace f_u33 := f_u33.fr hw
     replace f_v0 := f_v0.fr hw
     replace hA := hA.fr hw.size
     replace hF := hF.trans hw
     clear hs hF' hw
     refine seqR_nil ?_
     exact Exists.intro k (And.intro (Nat.lt_succ_self k) ⟨_, _, u33, hr, hA, hF, h0, h3, h4, f_v0, f_u33⟩)
   ·have hr := cnd_f c11 hr
    refine HT.exit ?_
    obtain rfl := Option.some.inj hr
    exact Exists.intro _ ⟨wl_3, rfl, hA, hF, h3, f_wl_3⟩
  rintro R w ⟨s8, wo_3, es, hA, hF, h3, f_wo_3⟩
  obtain rfl := es.symm
  refine HT.seq ?_
  refine HT.text (l := ⟨_, true, .raw wo_3⟩ :: ⟨_, true, .raw wo_3⟩ :: []) (tl := []) (by kernel_rfl) (by kernel_rfl) (by kernel_rfl) ?_ ?_
  ·exact
    Obls.p (fun R' w' hw hs hd => of_move ((hs 3 rfl).trans h3)) <|
    Obls.p (fun R' w' hw hs hd => by have a0 : R' 29 = wo_3 := hd.g 0 rfl; exact of_assign a0) <|
    Obls.nil
  intro R w hw hs hF'
  have h2 : R 2 = wo_3 := hF' 1 _ _ rfl rfl rfl
  replace f_wo_3 := f_wo_3.fr hw
  replace hA := hA.fr hw.size
  replace hF := hF.trans hw
  clear hs hF' hw
  refine seqR_nil ?_
  refine HT.ret ?_
  obtain rfl := Option.some.inj hr
  exact ⟨.inr rfl, [R 2], ⟨rfl, trivial⟩, (f_wo_3.eq h2), hF⟩
def M_spec_ParseFeatures_L0 (fu : Nat) (x2 : List (List UInt8)) : Nat → Int → (List Int) → Option (List Int)
 | 0, _, _ => none
 | k + 1, y8, y9 =>
  bd ((decide (y8 < (x2.length : Int))) && (decide (y8 ≤ (6 : Int)))) fun x10 =>
  bif x10 then (
   ck (inR y8 x2.length) <|
   cl true (M_spec_l2Cut fu (gtD x2 y8) (61 : Int)) fun x14 =>
   ck (i64B ((x14.length : Int) - (1 : Int))) <|
   ck (inR ((x14.length : Int) - (1 : Int)) x14.length) <|
   cl true (M_spec_ParseInt fu (gtD x14 ((x14.length : Int) - (1 : Int)))) fun x19 =>
   ck (lenOK (y9.length + ([x19.1] : List Int).length)) <|
   ck (i64B (y8 + (1 : Int))) <|
   M_spec_ParseFeatures_L0 fu x2 k (y8 + (1 : Int)) (y9 ++ ([x19.1] : List Int))
  ) else (
   some y9
  )
def M_spec_ParseFeatures (fu : Nat) (p0 : List UInt8) : Option ((List Int) × Bool) :=
 cl true (M_spec_l2Cut fu p0 (32 : Int)) fun x2 =>
 cl true (M_spec_ParseFeatures_L0 fu x2 fu (0 : Int) ([] : List Int)) fun s7 =>
 cl (true && ((p0 == ([] : List UInt8)) == false)) (M_spec_FormatFeatures fu s7) fun x24 =>
 bd ((p0 == ([] : List UInt8)) || (!(x24 == p0))) fun x26 =>
 bif x26 then (
  some (([] : List Int), false)
 ) else (
  some (s7, true)
 )
theorem M_spec_ParseFeatures_ok {fu : Nat} {A0 : Av} {p0 : List UInt8} {r : (List Int) × Bool} (hr : M_spec_ParseFeatures fu p0 = some r) {w : World} {v0 : Value} (hA : AvOK A0 w) (h0 : Rep eStr A0 w v0 p0) :
  Calls Tryd.prog 5 #[v0] w fun e w' => ∃ v, e = .returned v ∧ ((∃ a b, v = .tuple #[a, b] ∧ Rep (eSl (eInt .i64)) A0 w' a r.1 ∧ b = .bool r.2) ∧ Fr w w') := by
 unfold M_spec_ParseFeatures at hr
 obtain ⟨w0, hw0⟩ : ∃ w0, w0 = w := ⟨_, rfl⟩
 have hF : Fr w0 w := hw0 ▸ Fr.refl _
 have hA0 : ∀ b o, A0 b o → b < w0.heap.size := fun b o h => hw0 ▸ hA b o h
 have hA00 : AvOK A0 w0 := hA0
 rw [show Fr w = Fr w0 from hw0 ▸ rfl]
 clear hw0
 obtain ⟨A, hAe⟩ : ∃ A, A = A0 := ⟨_, rfl⟩
 have hAA : ∀ b o, A0 b o → A b o := fun b o h => hAe ▸ h
 replace hA : AvOK A w := hAe ▸ hA
 have hO : IniOK [] A w := IniOK.nil
 refine calls_of_HT2 [.tmp 2, .tmp 3] Tryd.func5 Tryd.ntmps5 (by decide) rfl rfl (Nat.le_of_ble_eq_true rfl) ?_
 intro R hR
 have f_v0 : Rep eStr A w v0 p0 := hAe ▸ h0
 replace h0 : R 0 = v0 := hR 0 _ rfl
 clear hR hAe
 refine HT.seq ?_
 refine HT.text (l := ⟨_, true, .rep (eSl (eInt .i64)) A ([] : List Int)⟩ :: ⟨_, true, .raw (.bool false)⟩ :: []) (tl := []) (by kernel_rfl) (by kernel_rfl) (by kernel_rfl) ?_ ?_
 ·exact
   Obls.p (fun R' w' hw hs hd => of_assign rep_nil) <|
   Obls.p (fun R' w' hw hs hd => of_assign rfl) <|
   Obls.nil
 intro R w hw hs hF'
 replace h0 := (hs 0 rfl).trans h0
 replace f_v0 := f_v0.fr hw
 replace hO := hO.fr hw
 replace hA := hA.fr hw.size
 replace hF := hF.trans hw
 clear hs hF' hw
 refine seqR_nil ?_
 refine HT.seq ?_
 refine HT.textR [] (⟨_, true, [], some (.vec w0.heap.size 3 (eInt .i64) ([] : List Int)), true, fun A => .any⟩ :: ⟨_, true, [0], some (.vec w0.heap.size 3 (eInt .i64) ([] : List Int)), true, fun A => .any⟩ :: []) (by kernel_rfl) (by kernel_rfl) (Wf.mk' (by kernel_rfl) (UAll.cons ust_any (UAll.cons ust_any (UAll.nil))) (by kernel_rfl) (by kernel_rfl)) hO hA ?_ ?_
 ·exact
   OblsR.cons (OblR.made _ rfl rfl rfl rfl fun A' R' w' ho hd => by exact made_build [] (E := eInt .i64) trivial Tryd.underlying22 Tryd.sizeOf3 Tryd.zeroValue3 rfl rfl rfl (Nat.le_trans hF.size ho.ch.size)) <|
   OblsR.cons (OblR.took 0 _ _ rfl rfl rfl rfl rfl fun A' R' w' ho hd u hok hav hin hop hds => by exact took_assign (hop _ _ rfl rfl rfl rfl).symm hok hav) <|
   OblsR.nil
 intro done ρ σ A R w hdn hI
 replace h0 : R 0 = v0 := (hI.reg rfl).trans h0
 obtain ⟨u1, e_u1⟩ : ∃ u, ρ 1 = u := ⟨_, rfl⟩
 have h4 : R 4 = u1 := (hI.opvR hdn 1 1 rfl rfl rfl rfl rfl).symm.trans e_u1
 replace f_v0 := f_v0.stp hI.stp
 replace hAA := hI.low' hAA hA0 (hO.ge (trivial))
 replace hF : Fr w0 w := hF.tr hI.ch (hO.ge (trivial))
 replace hO : IniOK [ob u1 (.vec w0.heap.size 3 (eInt .i64) ([] : List Int))] A w := hI.left hdn [(1, ob u1 (.vec w0.heap.size 3 (eInt .i64) ([] : List Int)))] ⟨rfl, rfl, e_u1, rfl, rfl, trivial⟩
 replace hA := hI.avok
 clear hI
 refine HT.seq ?_
 obtain ⟨x2, q3, hr⟩ := cl_some hr
 refine HT.text (l := ⟨_, true, .raw v0⟩ :: ⟨_, true, .rep (eSl eStr) A x2⟩ :: ⟨_, true, .rep (eSl eStr) A x2⟩ :: []) (tl := []) (by kernel_rfl) (by kernel_rfl) (by kernel_rfl) ?_ ?_
 ·exact
   Obls.p (fun R' w' hw hs hd => of_move ((hs 0 rfl).trans h0)) <|
   Obls.p (fun R' w' hw hs hd => by have a0 : R' 11 = v0 := hd.g 0 rfl; have ra0 := (f_v0.fr hw).eq a0; exact of_call Tryd.call15 (M_spec_l2Cut_okR (q3 rfl) (hA.fr hw.size) ra0 rfl)) <|
   Obls.p (fun R' w' hw hs hd => by have a0 : Rep (eSl eStr) A w' (R' 12) x2 := hd.g 0 rfl; exact of_assign a0) <|
   Obls.nil
 intro R w hw hs hF'
 replace h0 := (hs 0 rfl).trans h0
 replace h4 := (hs 4 rfl).trans h4
 obtain ⟨u4, h5, f_u4⟩ : ∃ u, R 5 = u ∧ Rep (eSl eStr) A w u x2 := ⟨_, rfl, hF' 2 _ _ rfl rfl rfl⟩
 replace f_v0 := f_v0.fr hw
 replace hO := hO.fr hw
 replace hA := hA.fr hw.size
 replace hF := hF.trans hw
 clear hs hF' hw
 refine seqR_nil ?_
 refine HT.seq ?_
 refine HT.seq ?_
 refine HT.text (l := ⟨_, true, .raw (.int .i64 (0 : Int))⟩ :: []) (tl := []) (by kernel_rfl) (by kernel_rfl) (by kernel_rfl) ?_ ?_
 ·exact
   Obls.p (fun R' w' hw hs hd => of_assign rfl) <|
   Obls.nil
 intro R w hw hs hF'
 replace h0 := (hs 0 rfl).trans h0
 replace h4 := (hs 4 rfl).trans h4
 replace h5 := (hs 5 rfl).trans h5
 have h6 : R 6 = .int .i64 (0 : Int) := hF' 0 _ _ rfl rfl rfl
 replace f_u4 := f_u4.fr hw
 replace f_v0 := f_v0.fr hw
 replace hO := hO.fr hw
 replace hA := hA.fr hw.size
 replace hF := hF.trans hw
 clear hs hF' hw
 refine seqR_nil ?_
 obtain ⟨rl5, q6, hr⟩ := cl_some hr
 replace q6 := q6 rfl
 refine HT.cut0 (fun R w => ∃ A : Av, ∃ (s7 : (List Int)) (uo_u1 : Value), rl5 = s7 ∧ AvOK A w ∧ Fr w0 w ∧ (∀ b o, A0 b o → A b o) ∧ IniOK [ob uo_u1 (.vec w0.heap.size 3 (eInt .i64) s7)] A w ∧ R 0 = v0 ∧ R 4 = uo_u1 ∧ Rep eStr A w v0 p0) ?_ ?_
 ·refine HT.block ?_
  refine HT.loop (fun k R w => ∃ A : Av, ∃ (y8 : Int) (y9 : List Int) (ul_u1 : Value), M_spec_ParseFeatures_L0 fu x2 k y8 y9 = some rl5 ∧ AvOK A w ∧ Fr w0 w ∧ (∀ b o, A0 b o → A b o) ∧ IniOK [ob ul_u1 (.vec w0.heap.size 3 (eInt .i64) y9)] A w ∧ R 0 = v0 ∧ R 4 = ul_u1 ∧ R 5 = u4 ∧ R 6 = .int .i64 y8 ∧ Rep (eSl eStr) A w u4 x2 ∧ Rep eStr A w v0 p0) fu ⟨_, _, _, u1, q6, hA, hF, hAA, hO, h0, h4, h5, h6, f_u4, f_v0⟩ ?_
  have hr0 := hr; clear hr q6
  rintro k R w ⟨A, y8, y9, ul_u1, hr, hA, hF, hAA, hO, h0, h4, h5, h6, f_u4, f_v0⟩
  rcases k with _ | k
  ·cases (show none = some _ from hr)
  rw [M_spec_ParseFeatures_L0] at hr
  refine HT.seq ?_
  refine HT.seq ?_
  obtain ⟨x10, q11, hr⟩ := bd_some hr
  refine HT.text (l := ⟨_, true, .raw (.int .i64 y8)⟩ :: ⟨_, true, .raw u4⟩ :: ⟨_, true, .raw (.int .i64 (x2.length : Int))⟩ :: ⟨_, true, .raw (.bool (decide (y8 < (x2.length : Int))))⟩ :: ⟨_, true, .raw (.bool (decide (y8 < (x2.length : Int))))⟩ :: ⟨_, (true && ((decide (y8 < (x2.length : Int))) == true)), .raw (.int .i64 y8)⟩ :: ⟨_, (true && ((decide (y8 < (x2.length : Int))) == true)), .raw (.bool (decide (y8 ≤ (6 : Int))))⟩ :: ⟨_, true, .raw (.bool x10)⟩ :: []) (tl := []) (by kernel_rfl) (by kernel_rfl) (by kernel_rfl) ?_ ?_
  ·exact
    Obls.p (fun R' w' hw hs hd => of_move ((hs 6 rfl).trans h6)) <|
    Obls.p (fun R' w' hw hs hd => of_move ((hs 5 rfl).trans h5)) <|
    Obls.p (fun R' w' hw hs hd => by have a0 : R' 14 = u4 := hd.g 0 rfl; have ra0 := (f_u4.fr hw).eq a0; exact of_len_sl (aT := #[]) ra0 Tryd.underlying35) <|
    Obls.p (fun R' w' hw hs hd => by have a0 : R' 13 = .int .i64 y8 := hd.g 0 rfl; have a1 : R' 15 = .int .i64 (x2.length : Int) := hd.g 1 rfl; exact of_lss a0 a1) <|
    Obls.p (fun R' w' hw hs hd => by have a0 : R' 16 = .bool (decide (y8 < (x2.length : Int))) := hd.g 0 rfl; exact of_move a0) <|
    Obls.cons (Obl.grd 4 true _ _ _ rfl rfl rfl rfl rfl (by kernel_rfl) fun hg R' w' hw hs hd => by have a0 : R' 6 = .int .i64 y8 := (hs 6 rfl).trans h6; exact of_move a0) <|
    Obls.cons (Obl.grd 4 true _ _ _ rfl rfl rfl rfl rfl (by kernel_rfl) fun hg R' w' hw hs hd => by have a0 : R' 18 = .int .i64 y8 := hd 0 _ _ _ rfl rfl rfl rfl hg; exact of_leq a0 rfl) <|
    Obls.p (fun R' w' hw hs hd => by have a0 : R' 17 = .bool (decide (y8 < (x2.length : Int))) := hd.g 0 rfl; exact of_pick (decide (y8 < (x2.length : Int))) a0 (fun hc => by have a1 : R' 19 = .bool (decide (y8 ≤ (6 : Int))) := hd 1 _ _ _ rfl rfl rfl rfl (g_and rfl (beq_of hc)); show _ = Value.bool x10; rw [q11, hc]; exact a1) (fun hc => by show _ = Value.bool x10; rw [q11, hc]; exact rfl)) <|
    Obls.nil
  intro R w hw hs hF'
  replace h0 := (hs 0 rfl).trans h0
  replace h4 := (hs 4 rfl).trans h4
  replace h5 := (hs 5 rfl).trans h5
  replace h6 := (hs 6 rfl).trans h6
  have h20 : R 20 = .bool x10 := hF' 7 _ _ rfl rfl rfl
  replace f_u4 := f_u4.fr hw
  replace f_v0 := f_v0.fr hw
  replace hO := hO.fr hw
  replace hA := hA.fr hw.size
  replace hF := hF.trans hw
  clear hs hF' hw
  refine seqR_nil ?_
  refine HT.cond x10 h20 (fun c12 => ?_) (fun c12 => ?_)
  ·have hr := cnd_t c12 hr
   refine HT.skip ?_
   refine HT.seq ?_
   refine HT.block ?_
   refine HT.seq ?_
   obtain ⟨e13, hr⟩ := ck_some hr
   obtain ⟨x14, q15, hr⟩ := cl_some hr
   refine HT.text (l := ⟨_, true, .raw u4⟩ :: ⟨_, true, .raw (.int .i64 y8)⟩ :: ⟨_, true, .qtr eStr A (gtD x2 y8)⟩ :: ⟨_, true, .rep eStr A (gtD x2 y8)⟩ :: ⟨_, true, .rep (eSl eStr) A x14⟩ :: ⟨_, true, .rep (eSl eStr) A x14⟩ :: []) (tl := []) (by kernel_rfl) (by kernel_rfl) (by kernel_rfl) ?_ ?_
   ·exact
     Obls.p (fun R' w' hw hs hd => of_move ((hs 5 rfl).trans h5)) <|
     Obls.p (fun R' w' hw hs hd => of_move ((hs 6 rfl).trans h6)) <|
     Obls.p (fun R' w' hw hs hd => by have a0 : R' 23 = u4 := hd.g 0 rfl; have a1 : R' 24 = .int .i64 y8 := hd.g 1 rfl; have ra0 := (f_u4.fr hw).eq a0; exact of_indexAddr ra0 a1 Tryd.underlying35 Tryd.sizeOf9 e13) <|
     Obls.p (fun R' w' hw hs hd => by have a0 : QRep eStr A w' (R' 25) (gtD x2 y8) := hd.g 0 rfl; exact (of_load a0.ptr Tryd.isAgg9 Tryd.sizeOf9)) <|
     Obls.p (fun R' w' hw hs hd => by have a0 : Rep eStr A w' (R' 26) (gtD x2 y8) := hd.g 0 rfl; exact of_call Tryd.call15 (M_spec_l2Cut_okR (q15 rfl) (hA.fr hw.size) a0 rfl)) <|
     Obls.p (fun R' w' hw hs hd => by have a0 : Rep (eSl eStr) A w' (R' 27) x14 := hd.g 0 rfl; exact of_assign a0) <|
     Obls.nil
   intro R w hw hs hF'
   replace h0 := (hs 0 rfl).trans h0
   replace h4 := (hs 4 rfl).trans h4
   replace h5 := (hs 5 rfl).trans h5
   replace h6 := (hs 6 rfl).trans h6
   obtain ⟨u16, h7, f_u16⟩ : ∃ u, R 7 = u ∧ Rep (eSl eStr) A w u x14 := ⟨_, rfl, hF' 5 _ _ rfl rfl rfl⟩
   replace f_u4 := f_u4.fr hw
   replace f_v0 := f_v0.fr hw
   replace hO := hO.fr hw
   replace hA := hA.fr hw.size
   replace hF := hF.trans hw
   clear hs hF' hw
   refine seqR_nil ?_
   refine HT.seq ?_
   obtain ⟨e17, hr⟩ := ck_some hr
   obtain ⟨e18, hr⟩ := ck_some hr
   obtain ⟨x19, q20, hr⟩ := cl_some hr
   refine HT.text (l := ⟨_, true, .raw u16⟩ :: ⟨_, true, .raw u16⟩ :: ⟨_, true, .raw (.int .i64 (x14.length : Int))⟩ :: ⟨_, true, .raw (.int .i64 ((x14.length : Int) - (1 : Int)))⟩ :: ⟨_, true, .qtr eStr A (gtD x14 ((x14.length : Int) - (1 : Int)))⟩ :: ⟨_, true, .rep eStr A (gtD x14 ((x14.length : Int) - (1 : Int)))⟩ :: ⟨_, true, .tup2 (.raw (.int .i64 x19.1)) (.raw (.bool x19.2))⟩ :: ⟨_, true, .tup2 (.raw (.int .i64 x19.1)) (.raw (.bool x19.2))⟩ :: ⟨_, true, .raw (.int .i64 x19.1)⟩ :: ⟨_, true, .raw (.bool x19.2)⟩ :: ⟨_, true, .raw (.int .i64 x19.1)⟩ :: ⟨_, true, .raw (.bool x19.2)⟩ :: []) (tl := []) (by kernel_rfl) (by kernel_rfl) (by kernel_rfl) ?_ ?_
   ·exact
     Obls.p (fun R' w' hw hs hd => of_move ((hs 7 rfl).trans h7)) <|
     Obls.p (fun R' w' hw hs hd => of_move ((hs 7 rfl).trans h7)) <|
     Obls.p (fun R' w' hw hs hd => by have a0 : R' 30 = u16 := hd.g 0 rfl; have ra0 := (f_u16.fr hw).eq a0; exact of_len_sl (aT := #[]) ra0 Tryd.underlying35) <|
     Obls.p (fun R' w' hw hs hd => by have a0 : R' 31 = .int .i64 (x14.length : Int) := hd.g 0 rfl; exact of_sub a0 rfl e17) <|
     Obls.p (fun R' w' hw hs hd => by have a0 : R' 29 = u16 := hd.g 0 rfl; have a1 : R' 32 = .int .i64 ((x14.length : Int) - (1 : Int)) := hd.g 1 rfl; have ra0 := (f_u16.fr hw).eq a0; exact of_indexAddr ra0 a1 Tryd.underlying35 Tryd.sizeOf9 e18) <|
     Obls.p (fun R' w' hw hs hd => by have a0 : QRep eStr A w' (R' 33) (gtD x14 ((x14.length : Int) - (1 : Int))) := hd.g 0 rfl; exact (of_load a0.ptr Tryd.isAgg9 Tryd.sizeOf9)) <|
     Obls.p (fun R' w' hw hs hd => by have a0 : Rep eStr A w' (R' 34) (gtD x14 ((x14.length : Int) - (1 : Int))) := hd.g 0 rfl; exact of_call Tryd.call16 (M_spec_ParseInt_ok (q20 rfl) (hA.fr hw.size) a0)) <|
     Obls.p (fun R' w' hw hs hd => by have a0 : Fact.ok (.tup2 (.raw (.int .i64 x19.1)) (.raw (.bool x19.2))) (R' 35) w' := hd.g 0 rfl; exact of_move a0) <|
     Obls.p (fun R' w' hw hs hd => by have a0 : Fact.ok (.tup2 (.raw (.int .i64 x19.1)) (.raw (.bool x19.2))) (R' 28) w' := hd.g 0 rfl; exact of_extract2_0 a0) <|
     Obls.p (fun R' w' hw hs hd => by have a0 : Fact.ok (.tup2 (.raw (.int .i64 x19.1)) (.raw (.bool x19.2))) (R' 28) w' := hd.g 0 rfl; exact of_extract2_1 a0) <|
     Obls.p (fun R' w' hw hs hd => by have a0 : R' 36 = .int .i64 x19.1 := hd.g 0 rfl; exact of_assign a0) <|
     Obls.p (fun R' w' hw hs hd => by have a0 : R' 37 = .bool x19.2 := hd.g 0 rfl; exact of_assign a0) <|
     Obls.nil
   intro R w hw hs hF'
   replace h0 := (hs 0 rfl).trans h0
   replace h4 := (hs 4 rfl).trans h4
   replace h5 := (hs 5 rfl).trans h5
   replace h6 := (hs 6 rfl).trans h6
   have h8 : R 8 = .int .i64 x19.1 := hF' 10 _ _ rfl rfl rfl
   replace f_u4 := f_u4.fr hw
   replace f_v0 := f_v0.fr hw
   replace hO := hO.fr hw
   replace hA := hA.fr hw.size
   replace hF := hF.trans hw
   clear hs hF' hw
   refine seqR_nil ?_
   obtain ⟨e21, hr⟩ := ck_some hr
   refine HT.textR [ob ul_u1 (.vec w0.heap.size 3 (eInt .i64) y9)] (⟨_, true, [], none, true, fun A => .raw ul_u1⟩ :: ⟨_, true, [], none, true, fun A => .raw (.int .i64 x19.1)⟩ :: ⟨_, true, [], none, true, fun A => .rep (eSl (eInt .i64)) A ([x19.1] : List Int)⟩ :: ⟨_, true, [0], some (.vec w0.heap.size 3 (eInt .i64) (y9 ++ ([x19.1] : List Int))), true, fun A => .any⟩ :: ⟨_, true, [4], some (.vec w0.heap.size 3 (eInt .i64) (y9 ++ ([x19.1] : List Int))), true, fun A => .any⟩ :: []) (by kernel_rfl) (by kernel_rfl) (Wf.mk' (by kernel_rfl) (UAll.cons ust_raw (UAll.cons ust_raw (UAll.cons ust_rep (UAll.cons ust_any (UAll.cons ust_any (UAll.nil)))))) (by kernel_rfl) (by kernel_rfl)) hO hA ?_ ?_
   ·exact
     OblsR.p (fun A' R' w' ho hd => of_move ((ho.old 4 rfl).trans h4)) <|
     OblsR.p (fun A' R' w' ho hd => of_move ((ho.old 8 rfl).trans h8)) <|
     OblsR.p (fun A' R' w' ho hd => by have a0 : R' 39 = .int .i64 x19.1 := hd.g 0 rfl; exact of_build [_] (E := eInt .i64) ⟨(rep_int.eq a0), trivial⟩ Tryd.underlying22 Tryd.sizeOf3 Tryd.zeroValue3 rfl rfl rfl ho.av) <|
     OblsR.cons (OblR.took 0 _ _ rfl rfl rfl rfl rfl fun A' R' w' ho hd u hok hav hin hop hds => by have a0 : R' 38 = ul_u1 := hd.g 0 rfl; have a1 : Rep (eSl (eInt .i64)) A' w' (R' 40) ([x19.1] : List Int) := hd.g 1 rfl; exact took_append (a0.trans (hin _ rfl).symm) hok hav (Nat.le_trans hF.size ho.ch.size) a1 Tryd.underlying22 el_3 e21) <|
     OblsR.cons (OblR.took 4 _ _ rfl rfl rfl rfl rfl fun A' R' w' ho hd u hok hav hin hop hds => by exact took_assign (hop _ _ rfl rfl rfl rfl).symm hok hav) <|
     OblsR.nil
   intro done ρ σ A R w hdn hI
   replace h0 : R 0 = v0 := (hI.reg rfl).trans h0
   replace h5 : R 5 = u4 := (hI.reg rfl).trans h5
   replace h6 : R 6 = .int .i64 y8 := (hI.reg rfl).trans h6
   obtain ⟨u22, e_u22⟩ : ∃ u, ρ 5 = u := ⟨_, rfl⟩
   have h4 : R 4 = u22 := (hI.opvR hdn 5 4 rfl rfl rfl rfl rfl).symm.trans e_u22
   replace f_u4 := f_u4.stp hI.stp
   replace f_v0 := f_v0.stp hI.stp
   replace hAA := hI.low' hAA hA0 (hO.ge (⟨rfl, trivial⟩))
   replace hF : Fr w0 w := hF.tr hI.ch (hO.ge (⟨rfl, trivial⟩))
   replace hO : IniOK [ob u22 (.vec w0.heap.size 3 (eInt .i64) (y9 ++ ([x19.1] : List Int)))] A w := hI.left hdn [(5, ob u22 (.vec w0.heap.size 3 (eInt .i64) (y9 ++ ([x19.1] : List Int))))] ⟨rfl, rfl, e_u22, rfl, rfl, trivial⟩
   replace hA := hI.avok
   clear hI
   obtain ⟨e23, hr⟩ := ck_some hr
   refine HT.text (l := ⟨_, true, .raw (.int .i64 y8)⟩ :: ⟨_, true, .raw (.int .i64 (y8 + (1 : Int)))⟩ :: ⟨_, true, .raw (.int .i64 (y8 + (1 : Int)))⟩ :: []) (tl := []) (by kernel_rfl) (by kernel_rfl) (by kernel_rfl) ?_ ?_
   ·exact
     Obls.p (fun R' w' hw hs hd => of_move ((hs 6 rfl).trans h6)) <|
     Obls.p (fun R' w' hw hs hd => by have a0 : R' 21 = .int .i64 y8 := hd.g 0 rfl; exact of_add a0 rfl e23) <|
     Obls.p (fun R' w' hw hs hd => by have a0 : R' 22 = .int .i64 (y8 + (1 : Int)) := hd.g 0 rfl; exact of_assign a0) <|
     Obls.nil
   intro R w hw hs hF'
   replace h0 := (hs 0 rfl).trans h0
   replace h4 := (hs 4 rfl).trans h4
   replace h5 := (hs 5 rfl).trans h5
   have h6 : R 6 = .int .i64 (y8 + (1 : Int)) := hF' 2 _ _ rfl rfl rfl
   replace f_u4 := f_u4.fr hw
   replace f_v0 := f_v0.fr hw
   replace hO := hO.fr hw
   replace hA := hA.fr hw.size
   replace hF := hF.trans hw
   clear hs hF' hw
   refine seqR_nil ?_
   exact Exists.intro k (And.intro (Nat.lt_succ_self k) ⟨_, _, _, u22, hr, hA, hF, hAA, hO, h0, h4, h5, h6, f_u4, f_v0⟩)
  ·have hr := cnd_f c12 hr
   refine HT.exit ?_
   obtain rfl := Option.some.inj hr
   exact Exists.intro _ ⟨_, ul_u1, rfl, hA, hF, hAA, hO, h0, h4, f_v0⟩
 rintro R w ⟨A, s7, uo_u1, es, hA, hF, hAA, hO, h0, h4, f_v0⟩
 obtain rfl := es.symm
 refine HT.seq ?_
 refine HT.seq ?_
 obtain ⟨x24, q25, hr⟩ := cl_some hr
 obtain ⟨x26, q27, hr⟩ := bd_some hr
 refine HT.text (l := ⟨_, true, .raw v0⟩ :: ⟨_, true, .raw (.bool (p0 == ([] : List UInt8)))⟩ :: ⟨_, true, .raw (.bool (p0 == ([] : List UInt8)))⟩ :: ⟨_, (true && ((p0 == ([] : List UInt8)) == false)), .raw uo_u1⟩ :: ⟨_, (true && ((p0 == ([] : List UInt8)) == false)), .rep eStr A x24⟩ :: ⟨_, (true && ((p0 == ([] : List UInt8)) == false)), .raw v0⟩ :: ⟨_, (true && ((p0 == ([] : List UInt8)) == false)), .raw (.bool (!(x24 == p0)))⟩ :: ⟨_, true, .raw (.bool x26)⟩ :: []) (tl := []) (by kernel_rfl) (by kernel_rfl) (by kernel_rfl) ?_ ?_
 ·exact
   Obls.p (fun R' w' hw hs hd => of_move ((hs 0 rfl).trans h0)) <|
   Obls.p (fun R' w' hw hs hd => by have a0 : R' 42 = v0 := hd.g 0 rfl; have ra0 := (f_v0.fr hw).eq a0; exact of_seql ra0 ⟨_, rfl, ⟨_, rfl, rfl, by decide⟩⟩) <|
   Obls.p (fun R' w' hw hs hd => by have a0 : R' 43 = .bool (p0 == ([] : List UInt8)) := hd.g 0 rfl; exact of_move a0) <|
   Obls.cons (Obl.grd 2 false _ _ _ rfl rfl rfl rfl rfl (by kernel_rfl) fun hg R' w' hw hs hd => by have a0 : R' 4 = uo_u1 := (hs 4 rfl).trans h4; exact of_move a0) <|
   Obls.cons (Obl.grd 2 false _ _ _ rfl rfl rfl rfl rfl (by kernel_rfl) fun hg R' w' hw hs hd => by have a0 : R' 45 = uo_u1 := hd 0 _ _ _ rfl rfl rfl rfl hg; have ra0 := (vec_rep ((hO.fr hw).ok 0 _ rfl).1 hAA hA0).eq a0; exact of_call Tryd.call17 (calls_flat (fun _ _ _ _ _ h => h) (M_spec_FormatFeatures_ok (q25 hg) (hA00.fr ((Nat.le_trans hF.size hw.size))) ra0))) <|
   Obls.cons (Obl.grd 2 false _ _ _ rfl rfl rfl rfl rfl (by kernel_rfl) fun hg R' w' hw hs hd => by have a0 : R' 0 = v0 := (hs 0 rfl).trans h0; exact of_move a0) <|
   Obls.cons (Obl.grd 2 false _ _ _ rfl rfl rfl rfl rfl (by kernel_rfl) fun hg R' w' hw hs hd => by have a0 : Rep eStr A w' (R' 46) x24 := hd 0 _ _ _ rfl rfl rfl rfl hg; have a1 : R' 47 = v0 := hd 1 _ _ _ rfl rfl rfl rfl hg; have ra1 := (f_v0.fr hw).eq a1; exact of_sneq a0 ra1) <|
   Obls.p (fun R' w' hw hs hd => by have a0 : R' 44 = .bool (p0 == ([] : List UInt8)) := hd.g 0 rfl; exact of_pick (p0 == ([] : List UInt8)) a0 (fun hc => by show _ = Value.bool x26; rw [q27, hc]; exact rfl) (fun hc => by have a2 : R' 48 = .bool (!(x24 == p0)) := hd 1 _ _ _ rfl rfl rfl rfl (g_and rfl (beq_of hc)); show _ = Value.bool x26; rw [q27, hc]; exact a2)) <|
   Obls.nil
 intro R w hw hs hF'
 replace h4 := (hs 4 rfl).trans h4
 have h49 : R 49 = .bool x26 := hF' 7 _ _ rfl rfl rfl
 replace hO := hO.fr hw
 replace hA := hA.fr hw.size
 replace hF := hF.trans hw
 clear hs hF' hw
 refine seqR_nil ?_
 refine HT.cond x26 h49 (fun c28 => ?_) (fun c28 => ?_)
 ·have hr := cnd_t c28 hr
  refine HT.seq ?_
  refine HT.text (l := ⟨_, true, .rep (eSl (eInt .i64)) A ([] : List Int)⟩ :: ⟨_, true, .rep (eSl (eInt .i64)) A ([] : List Int)⟩ :: ⟨_, true, .raw (.bool false)⟩ :: []) (tl := []) (by kernel_rfl) (by kernel_rfl) (by kernel_rfl) ?_ ?_
  ·exact
    Obls.p (fun R' w' hw hs hd => of_build [] (E := eInt .i64) trivial Tryd.underlying22 Tryd.sizeOf3 Tryd.zeroValue3 rfl rfl rfl (hA.fr hw.size)) <|
    Obls.p (fun R' w' hw hs hd => by have a0 : Rep (eSl (eInt .i64)) A w' (R' 50) ([] : List Int) := hd.g 0 rfl; exact of_assign a0) <|
    Obls.p (fun R' w' hw hs hd => of_assign rfl) <|
    Obls.nil
  intro R w hw hs hF'
  obtain ⟨u29, h2, f_u29⟩ : ∃ u, R 2 = u ∧ Rep (eSl (eInt .i64)) A w u ([] : List Int) := ⟨_, rfl, hF' 1 _ _ rfl rfl rfl⟩
  have h3 : R 3 = .bool false := hF' 2 _ _ rfl rfl rfl
  replace hO := hO.fr hw
  replace hO : IniOK [] A w := hO.sub [] trivial
  replace hA := hA.fr hw.size
  replace hF := hF.trans hw
  clear hs hF' hw
  refine seqR_nil ?_
  refine HT.ret ?_
  obtain rfl := Option.some.inj hr
  exact ⟨.inr rfl, [R 2, R 3], ⟨rfl, ⟨rfl, trivial⟩⟩, ⟨_, _, rfl, (f_u29.eq h2).down hAA, h3⟩, hF⟩
 ·have hr := cnd_f c28 hr
  refine HT.skip ?_
  refine HT.seq ?_
  refine HT.textR [ob uo_u1 (.vec w0.heap.size 3 (eInt .i64) s7)] (⟨_, true, [], none, true, fun A => .raw uo_u1⟩ :: ⟨_, true, [0], some (.nul), false, fun A => .rep (eSl (eInt .i64)) A s7⟩ :: ⟨_, true, [], none, true, fun A => .raw (.bool true)⟩ :: []) (by kernel_rfl) (by kernel_rfl) (Wf.mk' (by kernel_rfl) (UAll.cons ust_raw (UAll.cons ust_rep (UAll.cons ust_raw (UAll.nil)))) (by kernel_rfl) (by kernel_rfl)) hO hA ?_ ?_
  ·exact
    OblsR.p (fun A' R' w' ho hd => of_move ((ho.old 4 rfl).trans h4)) <|
    OblsR.cons (OblR.frz 0 _ rfl rfl rfl rfl rfl fun A' R' w' ho hd u hok hav hin hop hds => by have a0 : R' 51 = uo_u1 := hd.g 0 rfl; exact frz_assign (a0.trans (hin _ rfl).symm) hok ho.av hav) <|
    OblsR.p (fun A' R' w' ho hd => of_assign rfl) <|
    OblsR.nil
  intro done ρ σ A R w hdn hI
  obtain ⟨u30, h2, f_u30⟩ : ∃ u, R 2 = u ∧ Rep (eSl (eInt .i64)) A w u s7 := ⟨_, rfl, hI.fact hdn (i := 1) rfl rfl rfl⟩
  have h3 : R 3 = .bool true := hI.fact hdn (i := 2) rfl rfl rfl
  replace hAA := hI.low' hAA hA0 (hO.ge (⟨rfl, trivial⟩))
  replace hF : Fr w0 w := hF.tr hI.ch (hO.ge (⟨rfl, trivial⟩))
  replace hO : IniOK [] A w := hI.left hdn [] trivial
  replace hA := hI.avok
  clear hI
  refine HT.ret ?_
  obtain rfl := Option.some.inj hr
  exact ⟨.inr rfl, [R 2, R 3], ⟨rfl, ⟨rfl, trivial⟩⟩, ⟨_, _, rfl, (f_u30.eq h2).down hAA, h3⟩, hF⟩
def M_impl_FormatInt (fu : Nat) (p0 : Int) : Option (List UInt8) :=
 cl true (M_itoa fu p0) fun x1 =>
 some x1
theorem M_impl_FormatInt_ok {fu : Nat} {A : Av} {p0 : Int} {r : List UInt8} (hr : M_impl_FormatInt fu p0 = some r) {w : World} {v0 : Value} (hA : AvOK A w) (hG : GTab w) (h0 : v0 = .int .i64 p0) :
  Calls Tryd.prog 35 #[v0] w fun e w' => ∃ v, e = .returned v ∧ (Rep eStr A w' v r ∧ Fr w w') := by
 unfold M_impl_FormatInt at hr
 obtain ⟨w0, hw0⟩ : ∃ w0, w0 = w := ⟨_, rfl⟩
 have hF : Fr w0 w := hw0 ▸ Fr.refl _
 rw [show Fr w = Fr w0 from hw0 ▸ rfl]
 have hG0 : GTab w0 := hw0 ▸ hG
 clear hw0
 refine calls_of_HT2 [.tmp 2] Tryd.func35 Tryd.ntmps35 (by decide) rfl rfl (Nat.le_of_ble_eq_true rfl) ?_
 intro R hR
 replace h0 : R 0 = .int .i64 p0 := (hR 0 _ rfl).trans h0
 clear hR
 refine HT.seq ?_
 refine HT.text (l := ⟨_, true, .rep eStr A ([] : List UInt8)⟩ :: []) (tl := []) (by kernel_rfl) (by kernel_rfl) (by kernel_rfl) ?_ ?_
 ·exact
   Obls.p (fun R' w' hw hs hd => of_assign ⟨_, rfl, ⟨_, rfl, rfl, by decide⟩⟩) <|
   Obls.nil
 intro R w hw hs hF'
 replace h0 := (hs 0 rfl).trans h0
 replace hA := hA.fr hw.size
 replace hF := hF.trans hw
 clear hs hF' hw
 refine seqR_nil ?_
 refine HT.seq ?_
 obtain ⟨x1, q2, hr⟩ := cl_some hr
 refine HT.text (l := ⟨_, true, .raw (.int .i64 p0)⟩ :: ⟨_, true, .rep eStr A x1⟩ :: ⟨_, true, .rep eStr A x1⟩ :: []) (tl := []) (by kernel_rfl) (by kernel_rfl) (by kernel_rfl) ?_ ?_
 ·exact
   Obls.p (fun R' w' hw hs hd => of_move ((hs 0 rfl).trans h0)) <|
   Obls.p (fun R' w' hw hs hd => by have a0 : R' 3 = .int .i64 p0 := hd.g 0 rfl; exact of_call Tryd.call53 (M_itoa_ok (q2 rfl) (hA.fr hw.size) (hG0.fr (hF.trans hw)) a0)) <|
   Obls.p (fun R' w' hw hs hd => by have a0 : Rep eStr A w' (R' 4) x1 := hd.g 0 rfl; exact of_assign a0) <|
   Obls.nil
 intro R w hw hs hF'
 obtain ⟨u3, h2, f_u3⟩ : ∃ u, R 2 = u ∧ Rep eStr A w u x1 := ⟨_, rfl, hF' 2 _ _ rfl rfl rfl⟩
 replace hA := hA.fr hw.size
 replace hF := hF.trans hw
 clear hs hF' hw
 refine seqR_nil ?_
 refine HT.ret ?_
 obtain rfl := Option.some.inj hr
 exact ⟨.inr rfl, [R 2], ⟨rfl, trivial⟩, (f_u3.eq h2), hF⟩
def M_impl_within (fu : Nat) (p0 : Int) (p1 : Int) (p2 : Int) : Option Bool :=
 bd ((decide (p1 ≤ p0)) && (decide (p0 ≤ p2))) fun x1 =>
 some x1
theorem M_impl_within_ok {fu : Nat} {A : Av} {p0 : Int} {p1 : Int} {p2 : Int} {r : Bool} (hr : M_impl_within fu p0 p1 p2 = some r) {w : World} {v0 : Value} {v1 : Value} {v2 : Value} (hA : AvOK A w) (h0 : v0 = .int .i64 p0) (h1 : v1 = .int .i64 p1) (h2 : v2 = .int .i64 p2) :
  Calls Tryd.prog 36 #[v0, v1, v2] w fun e w' => ∃ v, e = .returned v ∧ (v = .bool r ∧ Fr w w') := by
 unfold M_impl_within at hr
 obtain ⟨w0, hw0⟩ : ∃ w0, w0 = w := ⟨_, rfl⟩
 have hF : Fr w0 w := hw0 ▸ Fr.refl _
 rw [show Fr w = Fr w0 from hw0 ▸ rfl]
 clear hw0
 refine calls_of_HT2 [.tmp 6] Tryd.func36 Tryd.ntmps36 (by decide) rfl rfl (Nat.le_of_ble_eq_true rfl) ?_
 intro R hR
 replace h0 : R 0 = .int .i64 p0 := (hR 0 _ rfl).trans h0
 replace h1 : R 1 = .int .i64 p1 := (hR 1 _ rfl).trans h1
 replace h2 : R 2 = .int .i64 p2 := (hR 2 _ rfl).trans h2
 clear hR
 refine HT.seq ?_
 refine HT.text (l := ⟨_, true, .raw (.bool false)⟩ :: []) (tl := []) (by kernel_rfl) (by kernel_rfl) (by kernel_rfl) ?_ ?_
 ·exact
   Obls.p (fun R' w' hw hs hd => of_assign rfl) <|
   Obls.nil
 intro R w hw hs hF'
 replace h0 := (hs 0 rfl).trans h0
 replace h1 := (hs 1 rfl).trans h1
 replace h2 := (hs 2 rfl).trans h2
 replace hA := hA.fr hw.size
 replace hF := hF.trans hw
 clear hs hF' hw
 refine seqR_nil ?_
 refine HT.seq ?_
 obtain ⟨x1, q2, hr⟩ := bd_some hr
 refine HT.text (l := ⟨_, true, .raw (.int .i64 p0)⟩ :: ⟨_, true, .raw (.int .i64 p1)⟩ :: ⟨_, true, .raw (.bool (decide (p1 ≤ p0)))⟩ :: ⟨_, true, .raw (.bool (decide (p1 ≤ p0)))⟩ :: ⟨_, (true && ((decide (p1 ≤ p0)) == true)), .raw (.int .i64 p0)⟩ :: ⟨_, (true && ((decide (p1 ≤ p0)) == true)), .raw (.int .i64 p2)⟩ :: ⟨_, (true && ((decide (p1 ≤ p0)) == true)), .raw (.bool (decide (p0 ≤ p2)))⟩ :: ⟨_, true, .raw (.bool x1)⟩ :: ⟨_, true, .raw (.bool x1)⟩ :: []) (tl := []) (by kernel_rfl) (by kernel_rfl) (by kernel_rfl) ?_ ?_
 ·exact
   Obls.p (fun R' w' hw hs hd => of_move ((hs 0 rfl).trans h0)) <|
   Obls.p (fun R' w' hw hs hd => of_move ((hs 1 rfl).trans h1)) <|
   Obls.p (fun R' w' hw hs hd => by have a0 : R' 7 = .int .i64 p0 := hd.g 0 rfl; have a1 : R' 8 = .int .i64 p1 := hd.g 1 rfl; exact of_geq a0 a1) <|
   Obls.p (fun R' w' hw hs hd => by have a0 : R' 9 = .bool (decide (p1 ≤ p0)) := hd.g 0 rfl; exact of_move a0) <|
   Obls.cons (Obl.grd 3 true _ _ _ rfl rfl rfl rfl rfl (by kernel_rfl) fun hg R' w' hw hs hd => by have a0 : R' 0 = .int .i64 p0 := (hs 0 rfl).trans h0; exact of_move a0) <|
   Obls.cons (Obl.grd 3 true _ _ _ rfl rfl rfl rfl rfl (by kernel_rfl) fun hg R' w' hw hs hd => by have a0 : R' 2 = .int .i64 p2 := (hs 2 rfl).trans h2; exact of_move a0) <|
   Obls.cons (Obl.grd 3 true _ _ _ rfl rfl rfl rfl rfl (by kernel_rfl) fun hg R' w' hw hs hd => by have a0 : R' 11 = .int .i64 p0 := hd 0 _ _ _ rfl rfl rfl rfl hg; have a1 : R' 12 = .int .i64 p2 := hd 1 _ _ _ rfl rfl rfl rfl hg; exact of_leq a0 a1) <|
   Obls.p (fun R' w' hw hs hd => by have a0 : R' 10 = .bool (decide (p1 ≤ p0)) := hd.g 0 rfl; exact of_pick (decide (p1 ≤ p0)) a0 (fun hc => by have a1 : R' 13 = .bool (decide (p0 ≤ p2)) := hd 1 _ _ _ rfl rfl rfl rfl (g_and rfl (beq_of hc)); show _ = Value.bool x1; rw [q2, hc]; exact a1) (fun hc => by show _ = Value.bool x1; rw [q2, hc]; exact rfl)) <|
   Obls.p (fun R' w' hw hs hd => by have a0 : R' 14 = .bool x1 := hd.g 0 rfl; exact of_assign a0) <|
   Obls.nil
 intro R w hw hs hF'
 have h6 : R 6 = .bool x1 := hF' 8 _ _ rfl rfl rfl
 replace hA := hA.fr hw.size
 replace hF := hF.trans hw
 clear hs hF' hw
 refine seqR_nil ?_
 refine HT.ret ?_
 obtain rfl := Option.some.inj hr
 exact ⟨.inr rfl, [R 6], ⟨rfl, trivial⟩, h6, hF⟩
def M_impl_ParseInt (fu : Nat) (p0 : List UInt8) : Option (Int × Bool) :=
 cl true (M_atoi fu p0) fun x1 =>
 cl (true && (x1.2 == false)) (M_impl_FormatInt fu x1.1) fun x4 =>
 bd (x1.2 || (!(x4 == p0))) fun x6 =>
 cl (true && (x6 == false)) (M_impl_within fu x1.1 (-999999999 : Int) (999999999 : Int)) fun x8 =>
 bd (x6 || (!x8)) fun x10 =>
 bif x10 then (
  some ((0 : Int), false)
 ) else (
  some (x1.1, true)
 )
theorem M_impl_ParseInt_ok {fu : Nat} {A : Av} {p0 : List UInt8} {r : Int × Bool} (hr : M_impl_ParseInt fu p0 = some r) {w : World} {v0 : Value} (hA : AvOK A w) (hG : GTab w) (h0 : Rep eStr A w v0 p0) :
  Calls Tryd.prog 20 #[v0] w fun e w' => ∃ v, e = .returned v ∧ ((∃ a b, v = .tuple #[a, b] ∧ a = .int .i64 r.1 ∧ b = .bool r.2) ∧ Fr w w') := by
 unfold M_impl_ParseInt at hr
 obtain ⟨w0, hw0⟩ : ∃ w0, w0 = w := ⟨_, rfl⟩
 have hF : Fr w0 w := hw0 ▸ Fr.refl _
 rw [show Fr w = Fr w0 from hw0 ▸ rfl]
 have hG0 : GTab w0 := hw0 ▸ hG
 clear hw0
 refine calls_of_HT2 [.tmp 2, .tmp 3] Tryd.func20 Tryd.ntmps20 (by decide) rfl rfl (Nat.le_of_ble_eq_true rfl) ?_
 intro R hR
 have f_v0 := h0
 replace h0 : R 0 = v0 := hR 0 _ rfl
 clear hR
 refine HT.seq ?_
 refine HT.text (l := ⟨_, true, .raw (.int .i64 (0 : Int))⟩ :: ⟨_, true, .raw (.bool false)⟩ :: []) (tl := []) (by kernel_rfl) (by kernel_rfl) (by kernel_rfl) ?_ ?_
 ·exact
   Obls.p (fun R' w' hw hs hd => of_assign rfl) <|
   Obls.p (fun R' w' hw hs hd => of_assign rfl) <|
   Obls.nil
 intro R w hw hs hF'
 replace h0 := (hs 0 rfl).trans h0
 replace f_v0 := f_v0.fr hw
 replace hA := hA.fr hw.size
 replace hF := hF.trans hw
 clear hs hF' hw
 refine seqR_nil ?_
 refine HT.seq ?_
 obtain ⟨x1, q2, hr⟩ := cl_some hr
 refine HT.text (l := ⟨_, true, .raw v0⟩ :: ⟨_, true, .tup2 (.raw (.int .i64 x1.1)) (.rep eErr A x1.2)⟩ :: ⟨_, true, .tup2 (.raw (.int .i64 x1.1)) (.rep eErr A x1.2)⟩ :: ⟨_, true, .raw (.int .i64 x1.1)⟩ :: ⟨_, true, .rep eErr A x1.2⟩ :: ⟨_, true, .raw (.int .i64 x1.1)⟩ :: ⟨_, true, .rep eErr A x1.2⟩ :: []) (tl := []) (by kernel_rfl) (by kernel_rfl) (by kernel_rfl) ?_ ?_
 ·exact
   Obls.p (fun R' w' hw hs hd => of_move ((hs 0 rfl).trans h0)) <|
   Obls.p (fun R' w' hw hs hd => by have a0 : R' 7 = v0 := hd.g 0 rfl; have ra0 := (f_v0.fr hw).eq a0; exact of_call Tryd.call34 (M_atoi_ok (q2 rfl) (hA.fr hw.size) (hG0.fr (hF.trans hw)) ra0)) <|
   Obls.p (fun R' w' hw hs hd => by have a0 : Fact.ok (.tup2 (.raw (.int .i64 x1.1)) (.rep eErr A x1.2)) (R' 8) w' := hd.g 0 rfl; exact of_move a0) <|
   Obls.p (fun R' w' hw hs hd => by have a0 : Fact.ok (.tup2 (.raw (.int .i64 x1.1)) (.rep eErr A x1.2)) (R' 6) w' := hd.g 0 rfl; exact of_extract2_0 a0) <|
   Obls.p (fun R' w' hw hs hd => by have a0 : Fact.ok (.tup2 (.raw (.int .i64 x1.1)) (.rep eErr A x1.2)) (R' 6) w' := hd.g 0 rfl; exact of_extract2_1 a0) <|
   Obls.p (fun R' w' hw hs hd => by have a0 : R' 9 = .int .i64 x1.1 := hd.g 0 rfl; exact of_assign a0) <|
   Obls.p (fun R' w' hw hs hd => by have a0 : Rep eErr A w' (R' 10) x1.2 := hd.g 0 rfl; exact of_assign a0) <|
   Obls.nil
 intro R w hw hs hF'
 replace h0 := (hs 0 rfl).trans h0
 have h4 : R 4 = .int .i64 x1.1 := hF' 5 _ _ rfl rfl rfl
 obtain ⟨u3, h5, f_u3⟩ : ∃ u, R 5 = u ∧ Rep eErr A w u x1.2 := ⟨_, rfl, hF' 6 _ _ rfl rfl rfl⟩
 replace f_v0 := f_v0.fr hw
 replace hA := hA.fr hw.size
 replace hF := hF.trans hw
 clear hs hF' hw
 refine seqR_nil ?_
 refine HT.seq ?_
 refine HT.seq ?_
 obtain ⟨x4, q5, hr⟩ := cl_some hr
 obtain ⟨x6, q7, hr⟩ := bd_some hr
 obtain ⟨x8, q9, hr⟩ := cl_some hr
 obtain ⟨x10, q11, hr⟩ := bd_some hr
 refine HT.text (l := ⟨_, true, .raw u3⟩ :: ⟨_, true, .raw (.bool x1.2)⟩ :: ⟨_, true, .raw (.bool x1.2)⟩ :: ⟨_, (true && (x1.2 == false)), .raw (.int .i64 x1.1)⟩ :: ⟨_, (true && (x1.2 == false)), .rep eStr A x4⟩ :: ⟨_, (true && (x1.2 == false)), .raw v0⟩ :: ⟨_, (true && (x1.2 == false)), .raw (.bool (!(x4 == p0)))⟩ :: ⟨_, true, .raw (.bool x6)⟩ :: ⟨_, true, .raw (.bool x6)⟩ :: ⟨_, (true && (x6 == false)), .raw (.int .i64 x1.1)⟩ :: ⟨_, (true && (x6 == false)), .raw (.bool x8)⟩ :: ⟨_, (true && (x6 == false)), .raw (.bool (!x8))⟩ :: ⟨_, true, .raw (.bool x10)⟩ :: []) (tl := []) (by kernel_rfl) (by kernel_rfl) (by kernel_rfl) ?_ ?_
 ·exact
   Obls.p (fun R' w' hw hs hd => of_move ((hs 5 rfl).trans h5)) <|
   Obls.p (fun R' w' hw hs hd => by have a0 : R' 11 = u3 := hd.g 0 rfl; have ra0 := (f_u3.fr hw).eq a0; exact of_err_neq ra0 (by kernel_rfl)) <|
   Obls.p (fun R' w' hw hs hd => by have a0 : R' 12 = .bool x1.2 := hd.g 0 rfl; exact of_move a0) <|
   Obls.cons (Obl.grd 2 false _ _ _ rfl rfl rfl rfl rfl (by kernel_rfl) fun hg R' w' hw hs hd => by have a0 : R' 4 = .int .i64 x1.1 := (hs 4 rfl).trans h4; exact of_move a0) <|
   Obls.cons (Obl.grd 2 false _ _ _ rfl rfl rfl rfl rfl (by kernel_rfl) fun hg R' w' hw hs hd => by have a0 : R' 14 = .int .i64 x1.1 := hd 0 _ _ _ rfl rfl rfl rfl hg; exact of_call Tryd.call35 (M_impl_FormatInt_ok (q5 hg) (hA.fr hw.size) (hG0.fr (hF.trans hw)) a0)) <|
   Obls.cons (Obl.grd 2 false _ _ _ rfl rfl rfl rfl rfl (by kernel_rfl) fun hg R' w' hw hs hd => by have a0 : R' 0 = v0 := (hs 0 rfl).trans h0; exact of_move a0) <|
   Obls.cons (Obl.grd 2 false _ _ _ rfl rfl rfl rfl rfl (by kernel_rfl) fun hg R' w' hw hs hd => by have a0 : Rep eStr A w' (R' 15) x4 := hd 0 _ _ _ rfl rfl rfl rfl hg; have a1 : R' 16 = v0 := hd 1 _ _ _ rfl rfl rfl rfl hg; have ra1 := (f_v0.fr hw).eq a1; exact of_sneq a0 ra1) <|
   Obls.p (fun R' w' hw hs hd => by have a0 : R' 13 = .bool x1.2 := hd.g 0 rfl; exact of_pick x1.2 a0 (fun hc => by show _ = Value.bool x6; rw [q7, hc]; exact rfl) (fun hc => by have a2 : R' 17 = .bool (!(x4 == p0)) := hd 1 _ _ _ rfl rfl rfl rfl (g_and rfl (beq_of hc)); show _ = Value.bool x6; rw [q7, hc]; exact a2)) <|
   Obls.p (fun R' w' hw hs hd => by have a0 : R' 18 = .bool x6 := hd.g 0 rfl; exact of_move a0) <|
   Obls.cons (Obl.grd 8 false _ _ _ rfl rfl rfl rfl rfl (by kernel_rfl) fun hg R' w' hw hs hd => by have a0 : R' 4 = .int .i64 x1.1 := (hs 4 rfl).trans h4; exact of_move a0) <|
   Obls.cons (Obl.grd 8 false _ _ _ rfl rfl rfl rfl rfl (by kernel_rfl) fun hg R' w' hw hs hd => by have a0 : R' 20 = .int .i64 x1.1 := hd 0 _ _ _ rfl rfl rfl rfl hg; exact of_call Tryd.call36 (M_impl_within_ok (q9 hg) (hA.fr hw.size) a0 rfl rfl)) <|
   Obls.cons (Obl.grd 8 false _ _ _ rfl rfl rfl rfl rfl (by kernel_rfl) fun hg R' w' hw hs hd => by have a0 : R' 21 = .bool x8 := hd 0 _ _ _ rfl rfl rfl rfl hg; exact of_not a0) <|
   Obls.p (fun R' w' hw hs hd => by have a0 : R' 19 = .bool x6 := hd.g 0 rfl; exact of_pick x6 a0 (fun hc => by show _ = Value.bool x10; rw [q11, hc]; exact rfl) (fun hc => by have a2 : R' 22 = .bool (!x8) := hd 1 _ _ _ rfl rfl rfl rfl (g_and rfl (beq_of hc)); show _ = Value.bool x10; rw [q11, hc]; exact a2)) <|
   Obls.nil
 intro R w hw hs hF'
 replace h4 := (hs 4 rfl).trans h4
 have h23 : R 23 = .bool x10 := hF' 12 _ _ rfl rfl rfl
 replace hA := hA.fr hw.size
 replace hF := hF.trans hw
 clear hs hF' hw
 refine seqR_nil ?_
 refine HT.cond x10 h23 (fun c12 => ?_) (fun c12 => ?_)
 ·have hr := cnd_t c12 hr
  refine HT.seq ?_
  refine HT.text (l := ⟨_, true, .raw (.int .i64 (0 : Int))⟩ :: ⟨_, true, .raw (.bool false)⟩ :: []) (tl := []) (by kernel_rfl) (by kernel_rfl) (by kernel_rfl) ?_ ?_
  ·exact
    Obls.p (fun R' w' hw hs hd => of_assign rfl) <|
    Obls.p (fun R' w' hw hs hd => of_assign rfl) <|
    Obls.nil
  intro R w hw hs hF'
  have h2 : R 2 = .int .i64 (0 : Int) := hF' 0 _ _ rfl rfl rfl
  have h3 : R 3 = .bool false := hF' 1 _ _ rfl rfl rfl
  replace hA := hA.fr hw.size
  replace hF := hF.trans hw
  clear hs hF' hw
  refine seqR_nil ?_
  refine HT.ret ?_
  obtain rfl := Option.some.inj hr
  exact ⟨.inr rfl, [R 2, R 3], ⟨rfl, ⟨rfl, trivial⟩⟩, ⟨_, _, rfl, h2, h3⟩, hF⟩
 ·have hr := cnd_f c12 hr
  refine HT.skip ?_
  refine HT.seq ?_
  refine HT.text (l := ⟨_, true, .raw (.int .i64 x1.1)⟩ :: ⟨_, true, .raw (.int .i64 x1.1)⟩ :: ⟨_, true, .raw (.bool true)⟩ :: []) (tl := []) (by kernel_rfl) (by kernel_rfl) (by kernel_rfl) ?_ ?_
  ·exact
    Obls.p (fun R' w' hw hs hd => of_move ((hs 4 rfl).trans h4)) <|
    Obls.p (fun R' w' hw hs hd => by have a0 : R' 24 = .int .i64 x1.1 := hd.g 0 rfl; exact of_assign a0) <|
    Obls.p (fun R' w' hw hs hd => of_assign rfl) <|
    Obls.nil
  intro R w hw hs hF'
  have h2 : R 2 = .int .i64 x1.1 := hF' 1 _ _ rfl rfl rfl
  have h3 : R 3 = .bool true := hF' 2 _ _ rfl rfl rfl
  replace hA := hA.fr hw.size
  replace hF := hF.trans hw
  clear hs hF' hw
  refine seqR_nil ?_
  refine HT.ret ?_
  obtain rfl := Option.some.inj hr
  exact ⟨.inr rfl, [R 2, R 3], ⟨rfl, ⟨rfl, trivial⟩⟩, ⟨_, _, rfl, h2, h3⟩, hF⟩
def M_slices_IndexFunc_int_int_L0 (fu : Nat) (p0 : List Int) (p1 : Int → Option Bool) : Nat → Int → Option (Ex Int Unit)
 | 0, _ => none
 | k + 1, y4 =>
  bif (decide (y4 < (p0.length : Int))) then (
   ck (inR y4 p0.length) <|
   cl true (p1 (gtD p0 y4)) fun x7 =>
   bif x7 then (
    some (Ex.ret y4)
   ) else (
    ck (i64B (y4 + (1 : Int))) <|
    M_slices_IndexFunc_int_int_L0 fu p0 p1 k (y4 + (1 : Int))
   )
  ) else (
   some (Ex.go ())
  )
def M_slices_IndexFunc_int_int (fu : Nat) (p0 : List Int) (p1 : Int → Option Bool) : Option Int :=
 cl true (M_slices_IndexFunc_int_int_L0 fu p0 p1 fu (0 : Int)) fun rl1 =>
 exM rl1 (fun r => some r) fun s3 =>
 some (-1 : Int)
theorem M_slices_IndexFunc_int_int_ok {fu : Nat} {A : Av} {p0 : List Int} {p1 : Int → Option Bool} {r : Int} (hr : M_slices_IndexFunc_int_int fu p0 p1 = some r) {w : World} {v0 : Value} {v1 : Value} (hA : AvOK A w) (h0 : Rep (eSl (eInt .i64)) A w v0 p0) (h1 : FnB1 Tryd.prog (eInt .i64) (fun r => .raw (.bool r)) A w v1 p1) :
  Calls Tryd.prog 75 #[v0, v1] w fun e w' => ∃ v, e = .returned v ∧ (v = .int .i64 r ∧ Fr w w') := by
 unfold M_slices_IndexFunc_int_int at hr
 obtain ⟨w0, hw0⟩ : ∃ w0, w0 = w := ⟨_, rfl⟩
 have hF : Fr w0 w := hw0 ▸ Fr.refl _
 rw [show Fr w = Fr w0 from hw0 ▸ rfl]
 have f_v1 : FnB1 Tryd.prog (eInt .i64) (fun r => .raw (.bool r)) A w0 v1 p1 := hw0 ▸ h1
 clear hw0
 refine calls_of_HT2 [.tmp 4] Tryd.func75 Tryd.ntmps75 (by decide) rfl rfl (Nat.le_of_ble_eq_true rfl) ?_
 intro R hR
 have f_v0 := h0
 replace h0 : R 0 = v0 := hR 0 _ rfl
 replace h1 : R 1 = v1 := hR 1 _ rfl
 clear hR
 refine HT.seq ?_
 refine HT.text (l := ⟨_, true, .raw (.int .i64 (0 : Int))⟩ :: []) (tl := []) (by kernel_rfl) (by kernel_rfl) (by kernel_rfl) ?_ ?_
 ·exact
   Obls.p (fun R' w' hw hs hd => of_assign rfl) <|
   Obls.nil
 intro R w hw hs hF'
 replace h0 := (hs 0 rfl).trans h0
 replace h1 := (hs 1 rfl).trans h1
 replace f_v0 := f_v0.fr hw
 replace hA := hA.fr hw.size
 replace hF := hF.trans hw
 clear hs hF' hw
 refine seqR_nil ?_
 refine HT.seq ?_
 refine HT.seq ?_
 refine HT.text (l := ⟨_, true, .raw v0⟩ :: ⟨_, true, .raw (.int .i64 (p0.length : Int))⟩ :: ⟨_, true, .raw (.int .i64 (0 : Int))⟩ :: []) (tl := []) (by kernel_rfl) (by kernel_rfl) (by kernel_rfl) ?_ ?_
 ·exact
   Obls.p (fun R' w' hw hs hd => of_move ((hs 0 rfl).trans h0)) <|
   Obls.p (fun R' w' hw hs hd => by have a0 : R' 6 = v0 := hd.g 0 rfl; have ra0 := (f_v0.fr hw).eq a0; exact of_len_sl (aT := #[]) ra0 Tryd.underlying22) <|
   Obls.p (fun R' w' hw hs hd => of_move rfl) <|
   Obls.nil
 intro R w hw hs hF'
 replace h0 := (hs 0 rfl).trans h0
 replace h1 := (hs 1 rfl).trans h1
 have h7 : R 7 = .int .i64 (p0.length : Int) := hF' 1 _ _ rfl rfl rfl
 have h8 : R 8 = .int .i64 (0 : Int) := hF' 2 _ _ rfl rfl rfl
 replace f_v0 := f_v0.fr hw
 replace hA := hA.fr hw.size
 replace hF := hF.trans hw
 clear hs hF' hw
 refine seqR_nil ?_
 obtain ⟨rl1, q2, hr⟩ := cl_some hr
 replace q2 := q2 rfl
 refine HT.cut0 (fun R w => ∃ (s3 : Unit), rl1 = Ex.go s3 ∧ AvOK A w ∧ Fr w0 w) ?_ ?_
 ·refine HT.block ?_
  refine HT.loop (fun k R w => ∃ (y4 : Int), M_slices_IndexFunc_int_int_L0 fu p0 p1 k y4 = some rl1 ∧ AvOK A w ∧ Fr w0 w ∧ R 0 = v0 ∧ R 1 = v1 ∧ R 7 = .int .i64 (p0.length : Int) ∧ R 8 = .int .i64 y4 ∧ Rep (eSl (eInt .i64)) A w v0 p0) fu ⟨_, q2, hA, hF, h0, h1, h7, h8, f_v0⟩ ?_
  have hr0 := hr; clear hr q2
  rintro k R w ⟨y4, hr, hA, hF, h0, h1, h7, h8, f_v0⟩
  rcases k with _ | k
  ·cases (show none = some _ from hr)
  rw [M_slices_IndexFunc_int_int_L0] at hr
  refine HT.seq ?_
  refine HT.text (l := ⟨_, true, .raw (.bool (decide (y4 < (p0.length : Int))))⟩ :: []) (tl := []) (by kernel_rfl) (by kernel_rfl) (by kernel_rfl) ?_ ?_
  ·exact
    Obls.p (fun R' w' hw hs hd => of_lss ((hs 8 rfl).trans h8) ((hs 7 rfl).trans h7)) <|
    Obls.nil
  intro R w hw hs hF'
  replace h0 := (hs 0 rfl).trans h0
  replace h1 := (hs 1 rfl).trans h1
  replace h7 := (hs 7 rfl).trans h7
  replace h8 := (hs 8 rfl).trans h8
  have h9 : R 9 = .bool (decide (y4 < (p0.length : Int))) := hF' 0 _ _ rfl rfl rfl
  replace f_v0 := f_v0.fr hw
  replace hA := hA.fr hw.size
  replace hF := hF.trans hw
  clear hs hF' hw
  refine seqR_nil ?_
  refine HT.seq ?_
  refine HT.cond (decide (y4 < (p0.length : Int))) h9 (fun c5 => ?_) (fun c5 => ?_)
  ·have hr := cnd_t c5 hr
   refine HT.skip ?_
   refine HT.seq ?_
   refine HT.block ?_
   refine HT.seq ?_
   refine HT.text (l := ⟨_, true, .raw (.int .i64 y4)⟩ :: ⟨_, true, .raw (.int .i64 y4)⟩ :: []) (tl := []) (by kernel_rfl) (by kernel_rfl) (by kernel_rfl) ?_ ?_
   ·exact
     Obls.p (fun R' w' hw hs hd => of_move ((hs 8 rfl).trans h8)) <|
     Obls.p (fun R' w' hw hs hd => by have a0 : R' 10 = .int .i64 y4 := hd.g 0 rfl; exact of_assign a0) <|
     Obls.nil
   intro R w hw hs hF'
   replace h0 := (hs 0 rfl).trans h0
   replace h1 := (hs 1 rfl).trans h1
   replace h7 := (hs 7 rfl).trans h7
   replace h8 := (hs 8 rfl).trans h8
   have h5 : R 5 = .int .i64 y4 := hF' 1 _ _ rfl rfl rfl
   replace f_v0 := f_v0.fr hw
   replace hA := hA.fr hw.size
   replace hF := hF.trans hw
   clear hs hF' hw
   refine seqR_nil ?_
   refine HT.seq ?_
   obtain ⟨e6, hr⟩ := ck_some hr
   obtain ⟨x7, q8, hr⟩ := cl_some hr
   refine HT.text (l := ⟨_, true, .raw v1⟩ :: ⟨_, true, .raw v0⟩ :: ⟨_, true, .raw (.int .i64 y4)⟩ :: ⟨_, true, .qtr (eInt .i64) A (gtD p0 y4)⟩ :: ⟨_, true, .raw (.int .i64 (gtD p0 y4))⟩ :: ⟨_, true, .raw (.bool x7)⟩ :: []) (tl := []) (by kernel_rfl) (by kernel_rfl) (by kernel_rfl) ?_ ?_
   ·exact
     Obls.p (fun R' w' hw hs hd => of_move ((hs 1 rfl).trans h1)) <|
     Obls.p (fun R' w' hw hs hd => of_move ((hs 0 rfl).trans h0)) <|
     Obls.p (fun R' w' hw hs hd => of_move ((hs 5 rfl).trans h5)) <|
     Obls.p (fun R' w' hw hs hd => by have a0 : R' 12 = v0 := hd.g 0 rfl; have a1 : R' 13 = .int .i64 y4 := hd.g 1 rfl; have ra0 := (f_v0.fr hw).eq a0; exact of_indexAddr ra0 a1 Tryd.underlying22 Tryd.sizeOf3 e6) <|
     Obls.p (fun R' w' hw hs hd => by have a0 : QRep (eInt .i64) A w' (R' 14) (gtD p0 y4) := hd.g 0 rfl; exact OpF.int (of_load a0.ptr Tryd.isAgg3 Tryd.sizeOf3)) <|
     Obls.p (fun R' w' hw hs hd => by have a0 : R' 11 = v1 := hd.g 0 rfl; have a1 : R' 15 = .int .i64 (gtD p0 y4) := hd.g 1 rfl; exact of_callv a0 (f_v1 _ _ (q8 rfl) _ _ ((hF.trans hw).ch _) (hA.fr hw.size) (rep_int.eq a1))) <|
     Obls.nil
   intro R w hw hs hF'
   replace h0 := (hs 0 rfl).trans h0
   replace h1 := (hs 1 rfl).trans h1
   replace h5 := (hs 5 rfl).trans h5
   replace h7 := (hs 7 rfl).trans h7
   replace h8 := (hs 8 rfl).trans h8
   have h16 : R 16 = .bool x7 := hF' 5 _ _ rfl rfl rfl
   replace f_v0 := f_v0.fr hw
   replace hA := hA.fr hw.size
   replace hF := hF.trans hw
   clear hs hF' hw
   refine seqR_nil ?_
   refine HT.cond x7 h16 (fun c9 => ?_) (fun c9 => ?_)
   ·have hr := cnd_t c9 hr
    refine HT.seq ?_
    refine HT.text (l := ⟨_, true, .raw (.int .i64 y4)⟩ :: ⟨_, true, .raw (.int .i64 y4)⟩ :: []) (tl := []) (by kernel_rfl) (by kernel_rfl) (by kernel_rfl) ?_ ?_
    ·exact
      Obls.p (fun R' w' hw hs hd => of_move ((hs 5 rfl).trans h5)) <|
      Obls.p (fun R' w' hw hs hd => by have a0 : R' 17 = .int .i64 y4 := hd.g 0 rfl; exact of_assign a0) <|
      Obls.nil
    intro R w hw hs hF'
    have h4 : R 4 = .int .i64 y4 := hF' 1 _ _ rfl rfl rfl
    replace hA := hA.fr hw.size
    replace hF := hF.trans hw
    clear hs hF' hw
    refine seqR_nil ?_
    refine HT.ret ?_
    obtain rfl := Option.some.inj hr
    have hr := hr0
    replace hr : some _ = some _ := hr
    obtain rfl := Option.some.inj hr
    exact ⟨.inr rfl, [R 4], ⟨rfl, trivial⟩, h4, hF⟩
   ·have hr := cnd_f c9 hr
    refine HT.skip ?_
    obtain ⟨e10, hr⟩ := ck_some hr
    refine HT.text (l := ⟨_, true, .raw (.int .i64 (y4 + (1 : Int)))⟩ :: ⟨_, true, .raw (.int .i64 (y4 + (1 : Int)))⟩ :: []) (tl := []) (by kernel_rfl) (by kernel_rfl) (by kernel_rfl) ?_ ?_
    ·exact
      Obls.p (fun R' w' hw hs hd => of_add ((hs 8 rfl).trans h8) rfl e10) <|
      Obls.p (fun R' w' hw hs hd => by have a0 : R' 18 = .int .i64 (y4 + (1 : Int)) := hd.g 0 rfl; exact of_move a0) <|
      Obls.nil
    intro R w hw hs hF'
    replace h0 := (hs 0 rfl).trans h0
    replace h1 := (hs 1 rfl).trans h1
    replace h7 := (hs 7 rfl).trans h7
    have h8 : R 8 = .int .i64 (y4 + (1 : Int)) := hF' 1 _ _ rfl rfl rfl
    replace f_v0 := f_v0.fr hw
    replace hA := hA.fr hw.size
    replace hF := hF.trans hw
    clear hs hF' hw
    refine seqR_nil ?_
    exact Exists.intro k (And.intro (Nat.lt_succ_self k) ⟨_, hr, hA, hF, h0, h1, h7, h8, f_v0⟩)
  ·have hr := cnd_f c5 hr
   refine HT.exit ?_
   obtain rfl := Option.some.inj hr
   exact Exists.intro _ ⟨rfl, hA, hF⟩
 rintro R w ⟨s3, rfl, hA, hF⟩
 have hr := exM_go hr
 refine HT.seq ?_
 refine HT.text (l := ⟨_, true, .raw (.int .i64 (-1 : Int))⟩ :: []) (tl := []) (by kernel_rfl) (by kernel_rfl) (by kernel_rfl) ?_ ?_
 ·exact
   Obls.p (fun R' w' hw hs hd => of_assign rfl) <|
   Obls.nil
 intro R w hw hs hF'
 have h4 : R 4 = .int .i64 (-1 : Int) := hF' 0 _ _ rfl rfl rfl
 replace hA := hA.fr hw.size
 replace hF := hF.trans hw
 clear hs hF' hw
 refine seqR_nil ?_
 refine HT.ret ?_
 obtain rfl := Option.some.inj hr
 exact ⟨.inr rfl, [R 4], ⟨rfl, trivial⟩, h4, hF⟩
def M_slices_ContainsFunc_int_int (fu : Nat) (p0 : List Int) (p1 : Int → Option Bool) : Option Bool :=
 cl true (M_slices_IndexFunc_int_int fu p0 p1) fun x1 =>
 some (decide ((0 : Int) ≤ x1))
theorem M_slices_ContainsFunc_int_int_ok {fu : Nat} {A : Av} {p0 : List Int} {p1 : Int → Option Bool} {r : Bool} (hr : M_slices_ContainsFunc_int_int fu p0 p1 = some r) {w : World} {v0 : Value} {v1 : Value} (hA : AvOK A w) (h0 : Rep (eSl (eInt .i64)) A w v0 p0) (h1 : FnB1 Tryd.prog (eInt .i64) (fun r => .raw (.bool r)) A w v1 p1) :
  Calls Tryd.prog 54 #[v0, v1] w fun e w' => ∃ v, e = .returned v ∧ (v = .bool r ∧ Fr w w') := by
 unfold M_slices_ContainsFunc_int_int at hr
 obtain ⟨w0, hw0⟩ : ∃ w0, w0 = w := ⟨_, rfl⟩
 have hF : Fr w0 w := hw0 ▸ Fr.refl _
 rw [show Fr w = Fr w0 from hw0 ▸ rfl]
 have f_v1 : FnB1 Tryd.prog (eInt .i64) (fun r => .raw (.bool r)) A w0 v1 p1 := hw0 ▸ h1
 clear hw0
 refine calls_of_HT2 [.tmp 4] Tryd.func54 Tryd.ntmps54 (by decide) rfl rfl (Nat.le_of_ble_eq_true rfl) ?_
 intro R hR
 have f_v0 := h0
 replace h0 : R 0 = v0 := hR 0 _ rfl
 replace h1 : R 1 = v1 := hR 1 _ rfl
 clear hR
 refine HT.seq ?_
 refine HT.text (l := ⟨_, true, .raw (.bool false)⟩ :: []) (tl := []) (by kernel_rfl) (by kernel_rfl) (by kernel_rfl) ?_ ?_
 ·exact
   Obls.p (fun R' w' hw hs hd => of_assign rfl) <|
   Obls.nil
 intro R w hw hs hF'
 replace h0 := (hs 0 rfl).trans h0
 replace h1 := (hs 1 rfl).trans h1
 replace f_v0 := f_v0.fr hw
 replace hA := hA.fr hw.size
 replace hF := hF.trans hw
 clear hs hF' hw
 refine seqR_nil ?_
 refine HT.seq ?_
 obtain ⟨x1, q2, hr⟩ := cl_some hr
 refine HT.text (l := ⟨_, true, .raw v0⟩ :: ⟨_, true, .raw v1⟩ :: ⟨_, true, .raw (.int .i64 x1)⟩ :: ⟨_, true, .raw (.bool (decide ((0 : Int) ≤ x1)))⟩ :: ⟨_, true, .raw (.bool (decide ((0 : Int) ≤ x1)))⟩ :: []) (tl := []) (by kernel_rfl) (by kernel_rfl) (by kernel_rfl) ?_ ?_
 ·exact
   Obls.p (fun R' w' hw hs hd => of_move ((hs 0 rfl).trans h0)) <|
   Obls.p (fun R' w' hw hs hd => of_move ((hs 1 rfl).trans h1)) <|
   Obls.p (fun R' w' hw hs hd => by have a0 : R' 5 = v0 := hd.g 0 rfl; have ra0 := (f_v0.fr hw).eq a0; have a1 : R' 6 = v1 := hd.g 1 rfl; exact of_call Tryd.call75 (M_slices_IndexFunc_int_int_ok (q2 rfl) (hA.fr hw.size) ra0 ((f_v1.on (hF.trans hw) (fun _ _ h => h)).eq a1))) <|
   Obls.p (fun R' w' hw hs hd => by have a0 : R' 7 = .int .i64 x1 := hd.g 0 rfl; exact of_geq a0 rfl) <|
   Obls.p (fun R' w' hw hs hd => by have a0 : R' 8 = .bool (decide ((0 : Int) ≤ x1)) := hd.g 0 rfl; exact of_assign a0) <|
   Obls.nil
 intro R w hw hs hF'
 have h4 : R 4 = .bool (decide ((0 : Int) ≤ x1)) := hF' 4 _ _ rfl rfl rfl
 replace hA := hA.fr hw.size
 replace hF := hF.trans hw
 clear hs hF' hw
 refine seqR_nil ?_
 refine HT.ret ?_
 obtain rfl := Option.some.inj hr
 exact ⟨.inr rfl, [R 4], ⟨rfl, trivial⟩, h4, hF⟩
def M_impl_IsFeatureVector_1 (fu : Nat) (p0 : Int) : Option Bool :=
 cl true (M_impl_within fu p0 (0 : Int) (1000 : Int)) fun x1 =>
 some (!x1)
theorem M_impl_IsFeatureVector_1_ok {fu : Nat} {A : Av} {p0 : Int} {r : Bool} (hr : M_impl_IsFeatureVector_1 fu p0 = some r) {w : World} {v0 : Value} (hA : AvOK A w) (h0 : v0 = .int .i64 p0) :
  Calls Tryd.prog 55 #[v0] w fun e w' => ∃ v, e = .returned v ∧ (v = .bool r ∧ Fr w w') := by
 unfold M_impl_IsFeatureVector_1 at hr
 obtain ⟨w0, hw0⟩ : ∃ w0, w0 = w := ⟨_, rfl⟩
 have hF : Fr w0 w := hw0 ▸ Fr.refl _
 rw [show Fr w = Fr w0 from hw0 ▸ rfl]
 clear hw0
 refine calls_of_HT2 [.tmp 2] Tryd.func55 Tryd.ntmps55 (by decide) rfl rfl (Nat.le_of_ble_eq_true rfl) ?_
 intro R hR
 replace h0 : R 0 = .int .i64 p0 := (hR 0 _ rfl).trans h0
 clear hR
 refine HT.seq ?_
 refine HT.text (l := ⟨_, true, .raw (.bool false)⟩ :: []) (tl := []) (by kernel_rfl) (by kernel_rfl) (by kernel_rfl) ?_ ?_
 ·exact
   Obls.p (fun R' w' hw hs hd => of_assign rfl) <|
   Obls.nil
 intro R w hw hs hF'
 replace h0 := (hs 0 rfl).trans h0
 replace hA := hA.fr hw.size
 replace hF := hF.trans hw
 clear hs hF' hw
 refine seqR_nil ?_
 refine HT.seq ?_
 obtain ⟨x1, q2, hr⟩ := cl_some hr
 refine HT.text (l := ⟨_, true, .raw (.int .i64 p0)⟩ :: ⟨_, true, .raw (.bool x1)⟩ :: ⟨_, true, .raw (.bool (!x1))⟩ :: ⟨_, true, .raw (.bool (!x1))⟩ :: []) (tl := []) (by kernel_rfl) (by kernel_rfl) (by kernel_rfl) ?_ ?_
 ·exact
   Obls.p (fun R' w' hw hs hd => of_move ((hs 0 rfl).trans h0)) <|
   Obls.p (fun R' w' hw hs hd => by have a0 : R' 3 = .int .i64 p0 := hd.g 0 rfl; exact of_call Tryd.call36 (M_impl_within_ok (q2 rfl) (hA.fr hw.size) a0 rfl rfl)) <|
   Obls.p (fun R' w' hw hs hd => by have a0 : R' 4 = .bool x1 := hd.g 0 rfl; exact of_not a0) <|
   Obls.p (fun R' w' hw hs hd => by have a0 : R' 5 = .bool (!x1) := hd.g 0 rfl; exact of_assign a0) <|
   Obls.nil
 intro R w hw hs hF'
 have h2 : R 2 = .bool (!x1) := hF' 3 _ _ rfl rfl rfl
 replace hA := hA.fr hw.size
 replace hF := hF.trans hw
 clear hs hF' hw
 refine seqR_nil ?_
 refine HT.ret ?_
 obtain rfl := Option.some.inj hr
 exact ⟨.inr rfl, [R 2], ⟨rfl, trivial⟩, h2, hF⟩
def M_impl_IsFeatureVector (fu : Nat) (p0 : List Int) : Option Bool :=
 cl (true && (((p0.length : Int) == (6 : Int)) == true)) (M_slices_ContainsFunc_int_int fu p0 (fun x => M_impl_IsFeatureVector_1 fu x)) fun x1 =>
 bd (((p0.length : Int) == (6 : Int)) && (!x1)) fun x3 =>
 some x3
theorem M_impl_IsFeatureVector_ok {fu : Nat} {A : Av} {p0 : List Int} {r : Bool} (hr : M_impl_IsFeatureVector fu p0 = some r) {w : World} {v0 : Value} (hA : AvOK A w) (h0 : Rep (eSl (eInt .i64)) A w v0 p0) :
  Calls Tryd.prog 37 #[v0] w fun e w' => ∃ v, e = .returned v ∧ (v = .bool r ∧ Fr w w') := by
 unfold M_impl_IsFeatureVector at hr
 obtain ⟨w0, hw0⟩ : ∃ w0, w0 = w := ⟨_, rfl⟩
 have hF : Fr w0 w := hw0 ▸ Fr.refl _
 rw [show Fr w = Fr w0 from hw0 ▸ rfl]
 clear hw0
 refine calls_of_HT2 [.tmp 2] Tryd.func37 Tryd.ntmps37 (by decide) rfl rfl (Nat.le_of_ble_eq_true rfl) ?_
 intro R hR
 have f_v0 := h0
 replace h0 : R 0 = v0 := hR 0 _ rfl
 clear hR
 refine HT.seq ?_
 refine HT.text (l := ⟨_, true, .raw (.bool false)⟩ :: []) (tl := []) (by kernel_rfl) (by kernel_rfl) (by kernel_rfl) ?_ ?_
 ·exact
   Obls.p (fun R' w' hw hs hd => of_assign rfl) <|
   Obls.nil
 intro R w hw hs hF'
 replace h0 := (hs 0 rfl).trans h0
 replace f_v0 := f_v0.fr hw
 replace hA := hA.fr hw.size
 replace hF := hF.trans hw
 clear hs hF' hw
 refine seqR_nil ?_
 refine HT.seq ?_
 obtain ⟨x1, q2, hr⟩ := cl_some hr
 obtain ⟨x3, q4, hr⟩ := bd_some hr
 refine HT.text (l := ⟨_, true, .raw v0⟩ :: ⟨_, true, .raw (.int .i64 (p0.length : Int))⟩ :: ⟨_, true, .raw (.bool ((p0.length : Int) == (6 : Int)))⟩ :: ⟨_, true, .raw (.bool ((p0.length : Int) == (6 : Int)))⟩ :: ⟨_, (true && (((p0.length : Int) == (6 : Int)) == true)), .raw v0⟩ :: ⟨_, (true && (((p0.length : Int) == (6 : Int)) == true)), .raw (.bool x1)⟩ :: ⟨_, (true && (((p0.length : Int) == (6 : Int)) == true)), .raw (.bool (!x1))⟩ :: ⟨_, true, .raw (.bool x3)⟩ :: ⟨_, true, .raw (.bool x3)⟩ :: []) (tl := []) (by kernel_rfl) (by kernel_rfl) (by kernel_rfl) ?_ ?_
 ·exact
   Obls.p (fun R' w' hw hs hd => of_move ((hs 0 rfl).trans h0)) <|
   Obls.p (fun R' w' hw hs hd => by have a0 : R' 3 = v0 := hd.g 0 rfl; have ra0 := (f_v0.fr hw).eq a0; exact of_len_sl (aT := #[]) ra0 Tryd.underlying22) <|
   Obls.p (fun R' w' hw hs hd => by have a0 : R' 4 = .int .i64 (p0.length : Int) := hd.g 0 rfl; exact of_eql a0 rfl) <|
   Obls.p (fun R' w' hw hs hd => by have a0 : R' 5 = .bool ((p0.length : Int) == (6 : Int)) := hd.g 0 rfl; exact of_move a0) <|
   Obls.cons (Obl.grd 3 true _ _ _ rfl rfl rfl rfl rfl (by kernel_rfl) fun hg R' w' hw hs hd => by have a0 : R' 0 = v0 := (hs 0 rfl).trans h0; exact of_move a0) <|
   Obls.cons (Obl.grd 3 true _ _ _ rfl rfl rfl rfl rfl (by kernel_rfl) fun hg R' w' hw hs hd => by have a0 : R' 7 = v0 := hd 0 _ _ _ rfl rfl rfl rfl hg; have ra0 := (f_v0.fr hw).eq a0; exact of_call Tryd.call54 (M_slices_ContainsFunc_int_int_ok (q2 hg) (hA.fr hw.size) ra0 (fnb1_of [] rfl Tryd.call55 (fun x r hr' w'' a hF' hA' ha => M_impl_IsFeatureVector_1_ok hr' hA' (rep_int_eq ha))))) <|
   Obls.cons (Obl.grd 3 true _ _ _ rfl rfl rfl rfl rfl (by kernel_rfl) fun hg R' w' hw hs hd => by have a0 : R' 8 = .bool x1 := hd 0 _ _ _ rfl rfl rfl rfl hg; exact of_not a0) <|
   Obls.p (fun R' w' hw hs hd => by have a0 : R' 6 = .bool ((p0.length : Int) == (6 : Int)) := hd.g 0 rfl; exact of_pick ((p0.length : Int) == (6 : Int)) a0 (fun hc => by have a1 : R' 9 = .bool (!x1) := hd 1 _ _ _ rfl rfl rfl rfl (g_and rfl (beq_of hc)); show _ = Value.bool x3; rw [q4, hc]; exact a1) (fun hc => by show _ = Value.bool x3; rw [q4, hc]; exact rfl)) <|
   Obls.p (fun R' w' hw hs hd => by have a0 : R' 10 = .bool x3 := hd.g 0 rfl; exact of_assign a0) <|
   Obls.nil
 intro R w hw hs hF'
 have h2 : R 2 = .bool x3 := hF' 8 _ _ rfl rfl rfl
 replace hA := hA.fr hw.size
 replace hF := hF.trans hw
 clear hs hF' hw
 refine seqR_nil ?_
 refine HT.ret ?_
 obtain rfl := Option.some.inj hr
 exact ⟨.inr rfl, [R 2], ⟨rfl, trivial⟩, h2, hF⟩
def M_impl_FormatFeatures_L0 (fu : Nat) (p0 : List Int) : Nat → Int → (List (List UInt8)) → Option (List (List UInt8))
 | 0, _, _ => none
 | k + 1, y10, y11 =>
  bif (decide (y10 < (p0.length : Int))) then (
   ck (inR y10 p0.length) <|
   ck (inR y10 featL.length) <|
   ck (lenOK ((gtD featL y10) ++ ([61] : List UInt8)).length) <|
   cl true (M_impl_FormatInt fu (gtD p0 y10)) fun x16 =>
   ck (lenOK (((gtD featL y10) ++ ([61] : List UInt8)) ++ x16).length) <|
   ck (inR y10 y11.length) <|
   ck (i64B (y10 + (1 : Int))) <|
   M_impl_FormatFeatures_L0 fu p0 k (y10 + (1 : Int)) (y11.set y10.toNat (((gtD featL y10) ++ ([61] : List UInt8)) ++ x16))
  ) else (
   some y11
  )
def M_impl_FormatFeatures (fu : Nat) (p0 : List Int) : Option (List UInt8) :=
 cl true (M_impl_IsFeatureVector fu p0) fun x1 =>
 bif (!x1) then (
  some ([] : List UInt8)
 ) else (
  ck (mkOK (p0.length : Int)) <|
  cl true (M_impl_FormatFeatures_L0 fu p0 fu (0 : Int) (List.replicate (p0.length : Int).toNat ([] : List UInt8))) fun s9 =>
  cl true (M_join fu s9 ([32] : List UInt8)) fun x23 =>
  some x23
 )
theorem M_impl_FormatFeatures_ok {fu : Nat} {A0 : Av} {p0 : List Int} {r : List UInt8} (hr : M_impl_FormatFeatures fu p0 = some r) {w : World} {v0 : Value} (hA : AvOK A0 w) (hG : GTab w) (h0 : Rep (eSl (eInt .i64)) A0 w v0 p0) :
  Calls Tryd.prog 21 #[v0] w fun e w' => ∃ v, e = .returned v ∧ (Rep eStr A0 w' v r ∧ Fr w w') := by
 unfold M_impl_FormatFeatures at hr
 obtain ⟨w0, hw0⟩ : ∃ w0, w0 = w := ⟨_, rfl⟩
 have hF : Fr w0 w := hw0 ▸ Fr.refl _
 have hA0 : ∀ b o, A0 b o → b < w0.heap.size := fun b o h => hw0 ▸ hA b o h
 have hA00 : AvOK A0 w0 := hA0
 rw [show Fr w = Fr w0 from hw0 ▸ rfl]
 have hG0 : GTab w0 := hw0 ▸ hG
 clear hw0
 obtain ⟨A, hAe⟩ : ∃ A, A = A0 := ⟨_, rfl⟩
 have hAA : ∀ b o, A0 b o → A b o := fun b o h => hAe ▸ h
 replace hA : AvOK A w := hAe ▸ hA
 have hO : IniOK [] A w := IniOK.nil
 refine calls_of_HT2 [.tmp 2] Tryd.func21 Tryd.ntmps21 (by decide) rfl rfl (Nat.le_of_ble_eq_true rfl) ?_
 intro R hR
 have f_v0 : Rep (eSl (eInt .i64)) A w v0 p0 := hAe ▸ h0
 replace h0 : R 0 = v0 := hR 0 _ rfl
 clear hR hAe
 refine HT.seq ?_
 refine HT.text (l := ⟨_, true, .rep eStr A ([] : List UInt8)⟩ :: []) (tl := []) (by kernel_rfl) (by kernel_rfl) (by kernel_rfl) ?_ ?_
 ·exact
   Obls.p (fun R' w' hw hs hd => of_assign ⟨_, rfl, ⟨_, rfl, rfl, by decide⟩⟩) <|
   Obls.nil
 intro R w hw hs hF'
 replace h0 := (hs 0 rfl).trans h0
 replace f_v0 := f_v0.fr hw
 replace hO := hO.fr hw
 replace hA := hA.fr hw.size
 replace hF := hF.trans hw
 clear hs hF' hw
 refine seqR_nil ?_
 refine HT.seq ?_
 refine HT.seq ?_
 obtain ⟨x1, q2, hr⟩ := cl_some hr
 refine HT.text (l := ⟨_, true, .raw v0⟩ :: ⟨_, true, .raw (.bool x1)⟩ :: ⟨_, true, .raw (.bool (!x1))⟩ :: []) (tl := []) (by kernel_rfl) (by kernel_rfl) (by kernel_rfl) ?_ ?_
 ·exact
   Obls.p (fun R' w' hw hs hd => of_move ((hs 0 rfl).trans h0)) <|
   Obls.p (fun R' w' hw hs hd => by have a0 : R' 6 = v0 := hd.g 0 rfl; have ra0 := (f_v0.fr hw).eq a0; exact of_call Tryd.call37 (M_impl_IsFeatureVector_ok (q2 rfl) (hA.fr hw.size) ra0)) <|
   Obls.p (fun R' w' hw hs hd => by have a0 : R' 7 = .bool x1 := hd.g 0 rfl; exact of_not a0) <|
   Obls.nil
 intro R w hw hs hF'
 replace h0 := (hs 0 rfl).trans h0
 have h8 : R 8 = .bool (!x1) := hF' 2 _ _ rfl rfl rfl
 replace f_v0 := f_v0.fr hw
 replace hO := hO.fr hw
 replace hA := hA.fr hw.size
 replace hF := hF.trans hw
 clear hs hF' hw
 refine seqR_nil ?_
 refine HT.cond (!x1) h8 (fun c3 => ?_) (fun c3 => ?_)
 ·have hr := cnd_t c3 hr
  refine HT.seq ?_
  refine HT.text (l := ⟨_, true, .rep eStr A ([] : List UInt8)⟩ :: []) (tl := []) (by kernel_rfl) (by kernel_rfl) (by kernel_rfl) ?_ ?_
  ·exact
    Obls.p (fun R' w' hw hs hd => of_assign ⟨_, rfl, ⟨_, rfl, rfl, by decide⟩⟩) <|
    Obls.nil
  intro R w hw hs hF'
  obtain ⟨u4, h2, f_u4⟩ : ∃ u, R 2 = u ∧ Rep eStr A w u ([] : List UInt8) := ⟨_, rfl, hF' 0 _ _ rfl rfl rfl⟩
  replace hO := hO.fr hw
  replace hA := hA.fr hw.size
  replace hF := hF.trans hw
  clear hs hF' hw
  refine seqR_nil ?_
  refine HT.ret ?_
  obtain rfl := Option.some.inj hr
  exact ⟨.inr rfl, [R 2], ⟨rfl, trivial⟩, (f_u4.eq h2).down hAA, hF⟩
 ·have hr := cnd_f c3 hr
  refine HT.skip ?_
  refine HT.seq ?_
  obtain ⟨e5, hr⟩ := ck_some hr
  refine HT.textR [] (⟨_, true, [], none, true, fun A => .raw v0⟩ :: ⟨_, true, [], none, true, fun A => .raw (.int .i64 (p0.length : Int))⟩ :: ⟨_, true, [], some (.vec w0.heap.size 9 eStr (List.replicate (p0.length : Int).toNat ([] : List UInt8))), true, fun A => .any⟩ :: ⟨_, true, [2], some (.vec w0.heap.size 9 eStr (List.replicate (p0.length : Int).toNat ([] : List UInt8))), true, fun A => .any⟩ :: []) (by kernel_rfl) (by kernel_rfl) (Wf.mk' (by kernel_rfl) (UAll.cons ust_raw (UAll.cons ust_raw (UAll.cons ust_any (UAll.cons ust_any (UAll.nil))))) (by kernel_rfl) (by kernel_rfl)) hO hA ?_ ?_
  ·exact
    OblsR.p (fun A' R' w' ho hd => of_move ((ho.old 0 rfl).trans h0)) <|
    OblsR.p (fun A' R' w' ho hd => by have a0 : R' 9 = v0 := hd.g 0 rfl; have ra0 := (f_v0.stp ho.stp).eq a0; exact of_len_sl (aT := #[]) ra0 Tryd.underlying22) <|
    OblsR.cons (OblR.made _ rfl rfl rfl rfl fun A' R' w' ho hd => by have a0 : R' 10 = .int .i64 (p0.length : Int) := hd.g 0 rfl; have a1 : R' 10 = .int .i64 (p0.length : Int) := hd.g 0 rfl; exact made_make a0 a1 e5 Tryd.underlying35 el_9 Tryd.zeroValue9 (fun A w => (rep1_str rfl (by decide))) (Nat.le_trans hF.size ho.ch.size)) <|
    OblsR.cons (OblR.took 2 _ _ rfl rfl rfl rfl rfl fun A' R' w' ho hd u hok hav hin hop hds => by exact took_assign (hop _ _ rfl rfl rfl rfl).symm hok hav) <|
    OblsR.nil
  intro done ρ σ A R w hdn hI
  replace h0 : R 0 = v0 := (hI.reg rfl).trans h0
  obtain ⟨u6, e_u6⟩ : ∃ u, ρ 3 = u := ⟨_, rfl⟩
  have h3 : R 3 = u6 := (hI.opvR hdn 3 3 rfl rfl rfl rfl rfl).symm.trans e_u6
  replace f_v0 := f_v0.stp hI.stp
  replace hAA := hI.low' hAA hA0 (hO.ge (trivial))
  replace hF : Fr w0 w := hF.tr hI.ch (hO.ge (trivial))
  replace hO : IniOK [ob u6 (.vec w0.heap.size 9 eStr (List.replicate (p0.length : Int).toNat ([] : List UInt8)))] A w := hI.left hdn [(3, ob u6 (.vec w0.heap.size 9 eStr (List.replicate (p0.length : Int).toNat ([] : List UInt8))))] ⟨rfl, rfl, e_u6, rfl, rfl, trivial⟩
  replace hA := hI.avok
  clear hI
  refine HT.seq ?_
  refine HT.seq ?_
  refine HT.text (l := ⟨_, true, .raw v0⟩ :: ⟨_, true, .raw (.int .i64 (p0.length : Int))⟩ :: ⟨_, true, .raw (.int .i64 (0 : Int))⟩ :: []) (tl := []) (by kernel_rfl) (by kernel_rfl) (by kernel_rfl) ?_ ?_
  ·exact
    Obls.p (fun R' w' hw hs hd => of_move ((hs 0 rfl).trans h0)) <|
    Obls.p (fun R' w' hw hs hd => by have a0 : R' 12 = v0 := hd.g 0 rfl; have ra0 := (f_v0.fr hw).eq a0; exact of_len_sl (aT := #[]) ra0 Tryd.underlying22) <|
    Obls.p (fun R' w' hw hs hd => of_move rfl) <|
    Obls.nil
  intro R w hw hs hF'
  replace h3 := (hs 3 rfl).trans h3
  have h12 : R 12 = v0 := hF' 0 _ _ rfl rfl rfl
  have h13 : R 13 = .int .i64 (p0.length : Int) := hF' 1 _ _ rfl rfl rfl
  have h14 : R 14 = .int .i64 (0 : Int) := hF' 2 _ _ rfl rfl rfl
  replace f_v0 := f_v0.fr hw
  replace hO := hO.fr hw
  replace hA := hA.fr hw.size
  replace hF := hF.trans hw
  clear hs hF' hw
  refine seqR_nil ?_
  obtain ⟨rl7, q8, hr⟩ := cl_some hr
  replace q8 := q8 rfl
  refine HT.cut0 (fun R w => ∃ A : Av, ∃ (s9 : (List (List UInt8))), rl7 = s9 ∧ AvOK A w ∧ Fr w0 w ∧ (∀ b o, A0 b o → A b o) ∧ IniOK [ob u6 (.vec w0.heap.size 9 eStr s9)] A w ∧ R 3 = u6) ?_ ?_
  ·refine HT.block ?_
   refine HT.loop (fun k R w => ∃ A : Av, ∃ (y10 : Int) (y11 : List (List UInt8)), M_impl_FormatFeatures_L0 fu p0 k y10 y11 = some rl7 ∧ AvOK A w ∧ Fr w0 w ∧ (∀ b o, A0 b o → A b o) ∧ IniOK [ob u6 (.vec w0.heap.size 9 eStr y11)] A w ∧ R 3 = u6 ∧ R 12 = v0 ∧ R 13 = .int .i64 (p0.length : Int) ∧ R 14 = .int .i64 y10 ∧ Rep (eSl (eInt .i64)) A w v0 p0) fu ⟨_, _, _, q8, hA, hF, hAA, hO, h3, h12, h13, h14, f_v0⟩ ?_
   have hr0 := hr; clear hr q8
   rintro k R w ⟨A, y10, y11, hr, hA, hF, hAA, hO, h3, h12, h13, h14, f_v0⟩
   rcases k with _ | k
   ·cases (show none = some _ from hr)
   rw [M_impl_FormatFeatures_L0] at hr
   refine HT.seq ?_
   refine HT.text (l := ⟨_, true, .raw (.bool (decide (y10 < (p0.length : Int))))⟩ :: []) (tl := []) (by kernel_rfl) (by kernel_rfl) (by kernel_rfl) ?_ ?_
   ·exact
     Obls.p (fun R' w' hw hs hd => of_lss ((hs 14 rfl).trans h14) ((hs 13 rfl).trans h13)) <|
     Obls.nil
   intro R w hw hs hF'
   replace h3 := (hs 3 rfl).trans h3
   replace h12 := (hs 12 rfl).trans h12
   replace h13 := (hs 13 rfl).trans h13
   replace h14 := (hs 14 rfl).trans h14
   have h15 : R 15 = .bool (decide (y10 < (p0.length : Int))) := hF' 0 _ _ rfl rfl rfl
   replace f_v0 := f_v0.fr hw
   replace hO := hO.fr hw
   replace hA := hA.fr hw.size
   replace hF := hF.trans hw
   clear hs hF' hw
   refine seqR_nil ?_
   refine HT.seq ?_
   refine HT.cond (decide (y10 < (p0.length : Int))) h15 (fun c12 => ?_) (fun c12 => ?_)
   ·have hr := cnd_t c12 hr
    refine HT.skip ?_
    refine HT.seq ?_
    refine HT.block ?_
    refine HT.seq ?_
    obtain ⟨e13, hr⟩ := ck_some hr
    refine HT.text (l := ⟨_, true, .raw (.int .i64 y10)⟩ :: ⟨_, true, .qtr (eInt .i64) A (gtD p0 y10)⟩ :: ⟨_, true, .raw (.int .i64 (gtD p0 y10))⟩ :: ⟨_, true, .raw (.int .i64 y10)⟩ :: ⟨_, true, .raw (.int .i64 (gtD p0 y10))⟩ :: []) (tl := []) (by kernel_rfl) (by kernel_rfl) (by kernel_rfl) ?_ ?_
    ·exact
      Obls.p (fun R' w' hw hs hd => of_move ((hs 14 rfl).trans h14)) <|
      Obls.p (fun R' w' hw hs hd => by have ra0 := (f_v0.fr hw).eq ((hs 12 rfl).trans h12); exact of_indexAddr ra0 ((hs 14 rfl).trans h14) Tryd.underlying22 Tryd.sizeOf3 e13) <|
      Obls.p (fun R' w' hw hs hd => by have a0 : QRep (eInt .i64) A w' (R' 17) (gtD p0 y10) := hd.g 0 rfl; exact OpF.int (of_load a0.ptr Tryd.isAgg3 Tryd.sizeOf3)) <|
      Obls.p (fun R' w' hw hs hd => by have a0 : R' 16 = .int .i64 y10 := hd.g 0 rfl; exact of_assign a0) <|
      Obls.p (fun R' w' hw hs hd => by have a0 : R' 18 = .int .i64 (gtD p0 y10) := hd.g 0 rfl; exact of_assign a0) <|
      Obls.nil
    intro R w hw hs hF'
    replace h3 := (hs 3 rfl).trans h3
    replace h12 := (hs 12 rfl).trans h12
    replace h13 := (hs 13 rfl).trans h13
    replace h14 := (hs 14 rfl).trans h14
    have h4 : R 4 = .int .i64 y10 := hF' 3 _ _ rfl rfl rfl
    have h5 : R 5 = .int .i64 (gtD p0 y10) := hF' 4 _ _ rfl rfl rfl
    replace f_v0 := f_v0.fr hw
    replace hO := hO.fr hw
    replace hA := hA.fr hw.size
    replace hF := hF.trans hw
    clear hs hF' hw
    refine seqR_nil ?_
    obtain ⟨e14, hr⟩ := ck_some hr
    obtain ⟨e15, hr⟩ := ck_some hr
    obtain ⟨x16, q17, hr⟩ := cl_some hr
    obtain ⟨e18, hr⟩ := ck_some hr
    obtain ⟨e19, hr⟩ := ck_some hr
    refine HT.drawR [ob u6 (.vec w0.heap.size 9 eStr y11)] (⟨_, true, [], none, true, fun A => .raw u6⟩ :: ⟨_, true, [], none, true, fun A => .raw (.int .i64 y10)⟩ :: ⟨_, true, [], none, true, fun A => .raw (.int .i64 y10)⟩ :: ⟨_, true, [], none, true, fun A => .raw (.pointer (some ⟨0, y10.toNat, none⟩))⟩ :: ⟨_, true, [], none, true, fun A => .rep eStr A (gtD featL y10)⟩ :: ⟨_, true, [], none, true, fun A => .rep eStr A ((gtD featL y10) ++ ([61] : List UInt8))⟩ :: ⟨_, true, [], none, true, fun A => .raw (.int .i64 (gtD p0 y10))⟩ :: ⟨_, true, [], none, true, fun A => .rep eStr A x16⟩ :: ⟨_, true, [], none, true, fun A => .rep eStr A (((gtD featL y10) ++ ([61] : List UInt8)) ++ x16)⟩ :: ⟨_, true, [], none, true, fun A => .raw (vptr u6 (y10.toNat * 1))⟩ :: ⟨_, true, [0], some (.vec w0.heap.size 9 eStr (y11.set y10.toNat (((gtD featL y10) ++ ([61] : List UInt8)) ++ x16))), false, fun A => .any⟩ :: []) (by kernel_rfl) (by kernel_rfl) (by kernel_rfl) (Wf.mk' (by kernel_rfl) (UAll.cons ust_raw (UAll.cons ust_raw (UAll.cons ust_raw (UAll.cons ust_raw (UAll.cons ust_rep (UAll.cons ust_rep (UAll.cons ust_raw (UAll.cons ust_rep (UAll.cons ust_rep (UAll.cons ust_raw (UAll.cons ust_any (UAll.nil)))))))))))) (by kernel_rfl) (by kernel_rfl)) hO hA ?_ ?_
    ·exact
      OblsR.p (fun A' R' w' ho hd => of_move ((ho.old 3 rfl).trans h3)) <|
      OblsR.p (fun A' R' w' ho hd => of_move ((ho.old 4 rfl).trans h4)) <|
      OblsR.p (fun A' R' w' ho hd => of_move ((ho.old 4 rfl).trans h4)) <|
      OblsR.p (fun A' R' w' ho hd => by have a1 : R' 21 = .int .i64 y10 := hd.g 0 rfl; exact of_indexAddr_g a1 Tryd.underlying62 Tryd.sizeOf9 e14) <|
      OblsR.p (fun A' R' w' ho hd => by have a0 : R' 22 = (.pointer (some ⟨0, y10.toNat, none⟩)) := hd.g 0 rfl; exact (of_load ((hG0.fr (hF.tr ho.ch (hO.ge (⟨rfl, trivial⟩)))).featAt e14 (a0)) Tryd.isAgg9 Tryd.sizeOf9)) <|
      OblsR.p (fun A' R' w' ho hd => by have a0 : Rep eStr A' w' (R' 23) (gtD featL y10) := hd.g 0 rfl; exact of_cat a0 ⟨_, rfl, ⟨_, rfl, rfl, by decide⟩⟩ e15) <|
      OblsR.p (fun A' R' w' ho hd => of_move ((ho.old 5 rfl).trans h5)) <|
      OblsR.p (fun A' R' w' ho hd => by have a0 : R' 25 = .int .i64 (gtD p0 y10) := hd.g 0 rfl; exact of_call Tryd.call35 (M_impl_FormatInt_ok (q17 rfl) ho.av (hG0.fr (hF.tr ho.ch (hO.ge (⟨rfl, trivial⟩)))) a0)) <|
      OblsR.p (fun A' R' w' ho hd => by have a0 : Rep eStr A' w' (R' 24) ((gtD featL y10) ++ ([61] : List UInt8)) := hd.g 0 rfl; have a1 : Rep eStr A' w' (R' 26) x16 := hd.g 1 rfl; exact of_cat a0 a1 e18) <|
      OblsR.p (fun A' R' w' ho hd => by have a0 : R' 19 = u6 := hd.g 0 rfl; have a1 : R' 20 = .int .i64 y10 := hd.g 1 rfl; exact of_indexAddr_vec (hO.ok 0 _ rfl).1 a0 a1 Tryd.underlying35 Tryd.sizeOf9 e19 rfl) <|
      OblsR.cons (OblR.took 0 _ _ rfl rfl rfl rfl rfl fun A' R' w' ho hd u hok hav hin hop hds => by have a0 : R' 28 = (vptr u6 (y10.toNat * 1)) := hd.g 0 rfl; have a1 : Rep eStr A' w' (R' 27) (((gtD featL y10) ++ ([61] : List UInt8)) ++ x16) := hd.g 1 rfl; obtain rfl := hin _ rfl; exact took_vstore a1 hok hav a0 e19 rfl (FldS.id _) Tryd.sizeOf9 rfl) <|
      OblsR.nil
    intro done ρ σ A R w hdn hI
    replace h3 : R 3 = u6 := (hI.reg rfl).trans h3
    replace h12 : R 12 = v0 := (hI.reg rfl).trans h12
    replace h13 : R 13 = .int .i64 (p0.length : Int) := (hI.reg rfl).trans h13
    replace h14 : R 14 = .int .i64 y10 := (hI.reg rfl).trans h14
    have z20 := hI.inivR 0 rfl
    have z21 := (hI.opnR hdn 11 10 rfl rfl rfl rfl rfl).trans z20
    replace f_v0 := f_v0.stp hI.stp
    replace hAA := hI.low' hAA hA0 (hO.ge (⟨rfl, trivial⟩))
    replace hF : Fr w0 w := hF.tr hI.ch (hO.ge (⟨rfl, trivial⟩))
    replace hO : IniOK [ob u6 (.vec w0.heap.size 9 eStr (y11.set y10.toNat (((gtD featL y10) ++ ([61] : List UInt8)) ++ x16)))] A w := hI.left hdn [(11, ob u6 (.vec w0.heap.size 9 eStr (y11.set y10.toNat (((gtD featL y10) ++ ([61] : List UInt8)) ++ x16))))] ⟨rfl, rfl, z21, rfl, rfl, trivial⟩
    replace hA := hI.avok
    clear hI
    obtain ⟨e22, hr⟩ := ck_some hr
    refine HT.text (l := ⟨_, true, .raw (.int .i64 (y10 + (1 : Int)))⟩ :: ⟨_, true, .raw (.int .i64 (y10 + (1 : Int)))⟩ :: []) (tl := []) (by kernel_rfl) (by kernel_rfl) (by kernel_rfl) ?_ ?_
    ·exact
      Obls.p (fun R' w' hw hs hd => of_add ((hs 14 rfl).trans h14) rfl e22) <|
      Obls.p (fun R' w' hw hs hd => by have a0 : R' 29 = .int .i64 (y10 + (1 : Int)) := hd.g 0 rfl; exact of_move a0) <|
      Obls.nil
    intro R w hw hs hF'
    replace h3 := (hs 3 rfl).trans h3
    replace h12 := (hs 12 rfl).trans h12
    replace h13 := (hs 13 rfl).trans h13
    have h14 : R 14 = .int .i64 (y10 + (1 : Int)) := hF' 1 _ _ rfl rfl rfl
    replace f_v0 := f_v0.fr hw
    replace hO := hO.fr hw
    replace hA := hA.fr hw.size
    replace hF := hF.trans hw
    clear hs hF' hw
    refine seqR_nil ?_
    exact Exists.intro k (And.intro (Nat.lt_succ_self k) ⟨_, _, _, hr, hA, hF, hAA, hO, h3, h12, h13, h14, f_v0⟩)
   ·have hr := cnd_f c12 hr
    refine HT.exit ?_
    obtain rfl := Option.some.inj hr
    exact Exists.intro _ ⟨_, rfl, hA, hF, hAA, hO, h3⟩
  rintro R w ⟨A, s9, es, hA, hF, hAA, hO, h3⟩
  obtain rfl := es.symm
  refine HT.seq ?_
  obtain ⟨x23, q24, hr⟩ := cl_some hr
  refine HT.text (l := ⟨_, true, .raw u6⟩ :: ⟨_, true, .rep eStr A x23⟩ :: ⟨_, true, .rep eStr A x23⟩ :: []) (tl := []) (by kernel_rfl) (by kernel_rfl) (by kernel_rfl) ?_ ?_
  ·exact
    Obls.p (fun R' w' hw hs hd => of_move ((hs 3 rfl).trans h3)) <|
    Obls.p (fun R' w' hw hs hd => by have a0 : R' 30 = u6 := hd.g 0 rfl; have ra0 := (vec_rep ((hO.fr hw).ok 0 _ rfl).1 hAA hA0).eq a0; exact of_call Tryd.call38 (calls_flat (fun _ _ _ _ _ h => h) (M_join_ok (q24 rfl) (hA00.fr ((Nat.le_trans hF.size hw.size))) ra0 ⟨_, rfl, ⟨_, rfl, rfl, by decide⟩⟩))) <|
    Obls.p (fun R' w' hw hs hd => by have a0 : Rep eStr A w' (R' 31) x23 := hd.g 0 rfl; exact of_assign a0) <|
    Obls.nil
  intro R w hw hs hF'
  obtain ⟨u25, h2, f_u25⟩ : ∃ u, R 2 = u ∧ Rep eStr A w u x23 := ⟨_, rfl, hF' 2 _ _ rfl rfl rfl⟩
  replace hO := hO.fr hw
  replace hO : IniOK [] A w := hO.sub [] trivial
  replace hA := hA.fr hw.size
  replace hF := hF.trans hw
  clear hs hF' hw
  refine seqR_nil ?_
  refine HT.ret ?_
  obtain rfl := Option.some.inj hr
  exact ⟨.inr rfl, [R 2], ⟨rfl, trivial⟩, (f_u25.eq h2).down hAA, hF⟩
end Go.Proofs.YtcodfkieaoomnaaDoor
