/- Own texts laid together. No statement of the seat is proved here. -/
import Derived.Test.YtpneepiboheldaaDoorZx2
/- Printed by dec.py: plain functions and the proofs that the code computes them. No statement of the seat is proved here. -/
namespace Go.Proofs.YtpneepiboheldaaDoor
open Go.RowKit
set_option linter.unusedVariables false
def M_spec_l2Cut_L0 (fu : Nat) (p0 : List UInt8) (p1 : Int) : Nat → Int → Int → (List (List UInt8)) → Option (Int × (List (List UInt8)))
  | 0, _, _, _ => none
  | k + 1, y5, y6, y7 =>
    bif (decide (y6 < (p0.length : Int))) then (
      ck (inR y6 p0.length) <|
      bif ((bAt p0 y6) == p1) then (
        ck (subR y5 y6 p0.length) <|
        ck (lenOK (y7.length + ([(subL p0 y5 y6)] : List (List UInt8)).length)) <|
        ck (i64B (y6 + (1 : Int))) <|
        ck (i64B (y6 + (1 : Int))) <|
        M_spec_l2Cut_L0 fu p0 p1 k (y6 + (1 : Int)) (y6 + (1 : Int)) (y7 ++ ([(subL p0 y5 y6)] : List (List UInt8)))
      ) else (
        ck (i64B (y6 + (1 : Int))) <|
        M_spec_l2Cut_L0 fu p0 p1 k y5 (y6 + (1 : Int)) y7
      )
    ) else (
      some (y5, y7)
    )
def M_spec_l2Cut (fu : Nat) (p0 : List UInt8) (p1 : Int) : Option (List (List UInt8)) :=
  cl true (M_spec_l2Cut_L0 fu p0 p1 fu (0 : Int) (0 : Int) ([] : List (List UInt8))) fun s4 =>
  ck (subR s4.1 (p0.length : Int) p0.length) <|
  ck (lenOK (s4.2.length + ([(subL p0 s4.1 (p0.length : Int))] : List (List UInt8)).length)) <|
  some (s4.2 ++ ([(subL p0 s4.1 (p0.length : Int))] : List (List UInt8)))
set_option maxRecDepth 100000 in
set_option maxHeartbeats 4000000 in
theorem M_spec_l2Cut_ok {fu : Nat} {A0 : Av} {p0 : List UInt8} {p1 : Int} {r : List (List UInt8)} (hr : M_spec_l2Cut fu p0 p1 = some r) {w : World} {v0 : Value} {v1 : Value} (hA : AvOK A0 w) (h0 : Rep eStr A0 w v0 p0) (h1 : v1 = .int .u8 p1) :
    Calls Tryd.prog 9 #[v0, v1] w fun e w' => ∃ v, e = .returned v ∧ ((Res.vec w.heap.size 9 eStr r).ok (addA A0 v) v w' ∧ Fr w w') := by
  unfold M_spec_l2Cut at hr
  obtain ⟨w0, hw0⟩ : ∃ w0, w0 = w := ⟨_, rfl⟩
  have hF : Fr w0 w := hw0 ▸ Fr.refl _
  have hA0 : ∀ b o, A0 b o → b < w0.heap.size := fun b o h => hw0 ▸ hA b o h
  have hA00 : AvOK A0 w0 := hA0
  rw [show w.heap.size = w0.heap.size from hw0 ▸ rfl]
  rw [show Fr w = Fr w0 from hw0 ▸ rfl]
  clear hw0
  obtain ⟨A, hAe⟩ : ∃ A, A = A0 := ⟨_, rfl⟩
  have hAA : ∀ b o, A0 b o → A b o := fun b o h => hAe ▸ h
  replace hA : AvOK A w := hAe ▸ hA
  have hO : IniOK [] A w := IniOK.nil
  refine calls_of_HT2 [.tmp 4] Tryd.func9 Tryd.ntmps9 (by decide) rfl rfl (Nat.le_of_ble_eq_true rfl) ?_
  intro R hR
  have f_v0 : Rep eStr A w v0 p0 := hAe ▸ h0
  replace h0 : R 0 = v0 := hR 0 _ rfl
  replace h1 : R 1 = .int .u8 p1 := (hR 1 _ rfl).trans h1
  clear hR hAe
  refine HT.seq ?_
  refine HT.text (l := ⟨_, true, .any⟩ :: []) (tl := []) (by kernel_rfl) (by kernel_rfl) (by kernel_rfl) ?_ ?_
  · exact
      Obls.cons (Obl.plain rfl rfl fun R' w' hw hs hd => by exact of_assign trivial) <|
      Obls.nil
  intro R w hw hs hF'
  replace h0 : R 0 = v0 := (hs 0 rfl).trans h0
  replace h1 : R 1 = .int .u8 p1 := (hs 1 rfl).trans h1
  replace f_v0 := f_v0.fr hw
  replace hO := hO.fr hw
  replace hA := hA.fr hw.size
  replace hF := hF.trans hw
  clear hs hF' hw
  refine seqR_nil ?_
  refine HT.seq ?_
  refine HT.textR [] (⟨_, true, [], some (.vec w0.heap.size 9 eStr ([] : List (List UInt8))), true, fun A => .any⟩ :: ⟨_, true, [0], some (.vec w0.heap.size 9 eStr ([] : List (List UInt8))), true, fun A => .any⟩ :: []) (by kernel_rfl) (by kernel_rfl) (Wf.mk' (by kernel_rfl) (UAll.cons ust_any (UAll.cons ust_any (UAll.nil))) (by kernel_rfl) (by kernel_rfl)) hO hA ?_ ?_
  · exact
      OblsR.cons (OblR.made _ rfl rfl rfl rfl fun A' R' w' ho hd => by exact made_build [] (E := eStr) trivial Tryd.underlying33 Tryd.sizeOf9 Tryd.zeroValue9 rfl rfl rfl (Nat.le_trans hF.size ho.ch.size)) <|
      OblsR.cons (OblR.took 0 _ _ rfl rfl rfl rfl rfl fun A' R' w' ho hd u hok hav hin hop hds => by exact took_assign (hop _ _ rfl rfl rfl rfl).symm hok hav) <|
      OblsR.nil
  intro done ρ σ A R w hdn hI
  replace h0 : R 0 = v0 := (hI.reg rfl).trans h0
  replace h1 : R 1 = .int .u8 p1 := (hI.reg rfl).trans h1
  obtain ⟨u1, e_u1⟩ : ∃ u, ρ 1 = u := ⟨_, rfl⟩
  have h5 : R 5 = u1 := (hI.opvR hdn 1 1 rfl rfl rfl rfl rfl).symm.trans e_u1
  replace f_v0 := f_v0.stp hI.stp
  replace hAA := hI.low' hAA hA0 (hO.ge (trivial))
  replace hF : Fr w0 w := hF.tr hI.ch (hO.ge (trivial))
  replace hO : IniOK [ob u1 (.vec w0.heap.size 9 eStr ([] : List (List UInt8)))] A w := hI.left hdn [(1, ob u1 (.vec w0.heap.size 9 eStr ([] : List (List UInt8))))] ⟨rfl, rfl, e_u1, rfl, rfl, trivial⟩
  replace hA := hI.avok
  clear hI
  refine HT.seq ?_
  refine HT.text (l := ⟨_, true, .raw (.int .i64 (0 : Int))⟩ :: []) (tl := []) (by kernel_rfl) (by kernel_rfl) (by kernel_rfl) ?_ ?_
  · exact
      Obls.cons (Obl.plain rfl rfl fun R' w' hw hs hd => by exact of_assign rfl) <|
      Obls.nil
  intro R w hw hs hF'
  replace h0 : R 0 = v0 := (hs 0 rfl).trans h0
  replace h1 : R 1 = .int .u8 p1 := (hs 1 rfl).trans h1
  replace h5 : R 5 = u1 := (hs 5 rfl).trans h5
  have h6 : R 6 = .int .i64 (0 : Int) := hF' 0 _ _ rfl rfl rfl
  replace f_v0 := f_v0.fr hw
  replace hO := hO.fr hw
  replace hA := hA.fr hw.size
  replace hF := hF.trans hw
  clear hs hF' hw
  refine seqR_nil ?_
  refine HT.seq ?_
  refine HT.seq ?_
  refine HT.text (l := ⟨_, true, .raw (.int .i64 (0 : Int))⟩ :: []) (tl := []) (by kernel_rfl) (by kernel_rfl) (by kernel_rfl) ?_ ?_
  · exact
      Obls.cons (Obl.plain rfl rfl fun R' w' hw hs hd => by exact of_assign rfl) <|
      Obls.nil
  intro R w hw hs hF'
  replace h0 : R 0 = v0 := (hs 0 rfl).trans h0
  replace h1 : R 1 = .int .u8 p1 := (hs 1 rfl).trans h1
  replace h5 : R 5 = u1 := (hs 5 rfl).trans h5
  replace h6 : R 6 = .int .i64 (0 : Int) := (hs 6 rfl).trans h6
  have h7 : R 7 = .int .i64 (0 : Int) := hF' 0 _ _ rfl rfl rfl
  replace f_v0 := f_v0.fr hw
  replace hO := hO.fr hw
  replace hA := hA.fr hw.size
  replace hF := hF.trans hw
  clear hs hF' hw
  refine seqR_nil ?_
  obtain ⟨rl2, q3, hr⟩ := cl_some hr
  replace q3 := q3 rfl
  refine HT.cut0 (fun R w => ∃ A : Av, ∃ (s4 : Int × (List (List UInt8))) (uo_u1 : Value), rl2 = s4 ∧ AvOK A w ∧ Fr w0 w ∧ (∀ b o, A0 b o → A b o) ∧ IniOK [ob uo_u1 (.vec w0.heap.size 9 eStr s4.2)] A w ∧ R 0 = v0 ∧ R 5 = uo_u1 ∧ R 6 = .int .i64 s4.1 ∧ Rep eStr A w v0 p0) ?_ ?_
  · refine HT.block ?_
    refine HT.loop (fun k R w => ∃ A : Av, ∃ (y5 : Int) (y6 : Int) (y7 : List (List UInt8)) (ul_u1 : Value), M_spec_l2Cut_L0 fu p0 p1 k y5 y6 y7 = some rl2 ∧ AvOK A w ∧ Fr w0 w ∧ (∀ b o, A0 b o → A b o) ∧ IniOK [ob ul_u1 (.vec w0.heap.size 9 eStr y7)] A w ∧ R 0 = v0 ∧ R 1 = .int .u8 p1 ∧ R 5 = ul_u1 ∧ R 6 = .int .i64 y5 ∧ R 7 = .int .i64 y6 ∧ Rep eStr A w v0 p0) fu ⟨_, _, _, _, u1, q3, hA, hF, hAA, hO, h0, h1, h5, h6, h7, f_v0⟩ ?_
    have hr0 := hr; clear hr q3
    rintro k R w ⟨A, y5, y6, y7, ul_u1, hr, hA, hF, hAA, hO, h0, h1, h5, h6, h7, f_v0⟩
    rcases k with _ | k
    · cases (show none = some _ from hr)
    rw [M_spec_l2Cut_L0] at hr
    refine HT.seq ?_
    refine HT.seq ?_
    refine HT.text (l := ⟨_, true, .raw (.int .i64 y6)⟩ :: ⟨_, true, .raw v0⟩ :: ⟨_, true, .raw (.int .i64 (p0.length : Int))⟩ :: ⟨_, true, .raw (.bool (decide (y6 < (p0.length : Int))))⟩ :: []) (tl := []) (by kernel_rfl) (by kernel_rfl) (by kernel_rfl) ?_ ?_
    · exact
        Obls.cons (Obl.plain rfl rfl fun R' w' hw hs hd => by have a0 : R' 7 = .int .i64 y6 := (hs 7 rfl).trans h7; exact of_move a0) <|
        Obls.cons (Obl.plain rfl rfl fun R' w' hw hs hd => by have a0 : R' 0 = v0 := (hs 0 rfl).trans h0; exact of_move a0) <|
        Obls.cons (Obl.plain rfl rfl fun R' w' hw hs hd => by have a0 : R' 10 = v0 := hd 0 _ _ _ rfl rfl rfl rfl rfl; have ra0 := (f_v0.fr hw).eq a0; exact of_len_str ra0 Tryd.underlying9) <|
        Obls.cons (Obl.plain rfl rfl fun R' w' hw hs hd => by have a0 : R' 9 = .int .i64 y6 := hd 0 _ _ _ rfl rfl rfl rfl rfl; have a1 : R' 11 = .int .i64 (p0.length : Int) := hd 1 _ _ _ rfl rfl rfl rfl rfl; exact of_lss a0 a1) <|
        Obls.nil
    intro R w hw hs hF'
    replace h0 : R 0 = v0 := (hs 0 rfl).trans h0
    replace h1 : R 1 = .int .u8 p1 := (hs 1 rfl).trans h1
    replace h5 : R 5 = ul_u1 := (hs 5 rfl).trans h5
    replace h6 : R 6 = .int .i64 y5 := (hs 6 rfl).trans h6
    replace h7 : R 7 = .int .i64 y6 := (hs 7 rfl).trans h7
    have h12 : R 12 = .bool (decide (y6 < (p0.length : Int))) := hF' 3 _ _ rfl rfl rfl
    replace f_v0 := f_v0.fr hw
    replace hO := hO.fr hw
    replace hA := hA.fr hw.size
    replace hF := hF.trans hw
    clear hs hF' hw
    refine seqR_nil ?_
    refine HT.cond (decide (y6 < (p0.length : Int))) h12 (fun c8 => ?_) (fun c8 => ?_)
    · have hr := cnd_t c8 hr
      refine HT.skip ?_
      refine HT.seq ?_
      refine HT.block ?_
      refine HT.seq ?_
      obtain ⟨e9, hr⟩ := ck_some hr
      refine HT.text (l := ⟨_, true, .raw v0⟩ :: ⟨_, true, .raw (.int .i64 y6)⟩ :: ⟨_, true, .raw (.int .u8 (bAt p0 y6))⟩ :: ⟨_, true, .raw (.int .u8 p1)⟩ :: ⟨_, true, .raw (.bool ((bAt p0 y6) == p1))⟩ :: []) (tl := []) (by kernel_rfl) (by kernel_rfl) (by kernel_rfl) ?_ ?_
      · exact
          Obls.cons (Obl.plain rfl rfl fun R' w' hw hs hd => by have a0 : R' 0 = v0 := (hs 0 rfl).trans h0; exact of_move a0) <|
          Obls.cons (Obl.plain rfl rfl fun R' w' hw hs hd => by have a0 : R' 7 = .int .i64 y6 := (hs 7 rfl).trans h7; exact of_move a0) <|
          Obls.cons (Obl.plain rfl rfl fun R' w' hw hs hd => by have a0 : R' 15 = v0 := hd 0 _ _ _ rfl rfl rfl rfl rfl; have ra0 := (f_v0.fr hw).eq a0; have a1 : R' 16 = .int .i64 y6 := hd 1 _ _ _ rfl rfl rfl rfl rfl; exact of_strIndex ra0 a1 Tryd.underlying9 e9) <|
          Obls.cons (Obl.plain rfl rfl fun R' w' hw hs hd => by have a0 : R' 1 = .int .u8 p1 := (hs 1 rfl).trans h1; exact of_move a0) <|
          Obls.cons (Obl.plain rfl rfl fun R' w' hw hs hd => by have a0 : R' 17 = .int .u8 (bAt p0 y6) := hd 0 _ _ _ rfl rfl rfl rfl rfl; have a1 : R' 18 = .int .u8 p1 := hd 1 _ _ _ rfl rfl rfl rfl rfl; exact of_eql a0 a1) <|
          Obls.nil
      intro R w hw hs hF'
      replace h0 : R 0 = v0 := (hs 0 rfl).trans h0
      replace h1 : R 1 = .int .u8 p1 := (hs 1 rfl).trans h1
      replace h5 : R 5 = ul_u1 := (hs 5 rfl).trans h5
      replace h6 : R 6 = .int .i64 y5 := (hs 6 rfl).trans h6
      replace h7 : R 7 = .int .i64 y6 := (hs 7 rfl).trans h7
      have h19 : R 19 = .bool ((bAt p0 y6) == p1) := hF' 4 _ _ rfl rfl rfl
      replace f_v0 := f_v0.fr hw
      replace hO := hO.fr hw
      replace hA := hA.fr hw.size
      replace hF := hF.trans hw
      clear hs hF' hw
      refine seqR_nil ?_
      refine HT.cond ((bAt p0 y6) == p1) h19 (fun c10 => ?_) (fun c10 => ?_)
      · have hr := cnd_t c10 hr
        refine HT.seq ?_
        obtain ⟨e11, hr⟩ := ck_some hr
        obtain ⟨e12, hr⟩ := ck_some hr
        refine HT.textR [ob ul_u1 (.vec w0.heap.size 9 eStr y7)] (⟨_, true, [], none, true, fun A => .raw ul_u1⟩ :: ⟨_, true, [], none, true, fun A => .raw v0⟩ :: ⟨_, true, [], none, true, fun A => .raw (.int .i64 y5)⟩ :: ⟨_, true, [], none, true, fun A => .raw (.int .i64 y6)⟩ :: ⟨_, true, [], none, true, fun A => .rep eStr A (subL p0 y5 y6)⟩ :: ⟨_, true, [], none, true, fun A => .rep (eSl eStr) A ([(subL p0 y5 y6)] : List (List UInt8))⟩ :: ⟨_, true, [0], some (.vec w0.heap.size 9 eStr (y7 ++ ([(subL p0 y5 y6)] : List (List UInt8)))), true, fun A => .any⟩ :: ⟨_, true, [7], some (.vec w0.heap.size 9 eStr (y7 ++ ([(subL p0 y5 y6)] : List (List UInt8)))), true, fun A => .any⟩ :: []) (by kernel_rfl) (by kernel_rfl) (Wf.mk' (by kernel_rfl) (UAll.cons ust_raw (UAll.cons ust_raw (UAll.cons ust_raw (UAll.cons ust_raw (UAll.cons ust_rep (UAll.cons ust_rep (UAll.cons ust_any (UAll.cons ust_any (UAll.nil))))))))) (by kernel_rfl) (by kernel_rfl)) hO hA ?_ ?_
        · exact
            OblsR.cons (OblR.plain rfl rfl rfl rfl fun A' R' w' ho hd => by have a0 : R' 5 = ul_u1 := (ho.old 5 rfl).trans h5; exact of_move a0) <|
            OblsR.cons (OblR.plain rfl rfl rfl rfl fun A' R' w' ho hd => by have a0 : R' 0 = v0 := (ho.old 0 rfl).trans h0; exact of_move a0) <|
            OblsR.cons (OblR.plain rfl rfl rfl rfl fun A' R' w' ho hd => by have a0 : R' 6 = .int .i64 y5 := (ho.old 6 rfl).trans h6; exact of_move a0) <|
            OblsR.cons (OblR.plain rfl rfl rfl rfl fun A' R' w' ho hd => by have a0 : R' 7 = .int .i64 y6 := (ho.old 7 rfl).trans h7; exact of_move a0) <|
            OblsR.cons (OblR.plain rfl rfl rfl rfl fun A' R' w' ho hd => by have a0 : R' 21 = v0 := hd 0 _ _ _ rfl rfl rfl rfl rfl; have a1 : R' 22 = .int .i64 y5 := hd 1 _ _ _ rfl rfl rfl rfl rfl; have a2 : R' 23 = .int .i64 y6 := hd 2 _ _ _ rfl rfl rfl rfl rfl; have ra0 := (f_v0.stp ho.stp).eq a0; exact of_slice_str ra0 a1 a2 Tryd.underlying9  e11) <|
            OblsR.cons (OblR.plain rfl rfl rfl rfl fun A' R' w' ho hd => by have a0 : Rep eStr A' w' (R' 24) (subL p0 y5 y6) := hd 0 _ _ _ rfl rfl rfl rfl rfl; exact of_build [_] (E := eStr) ⟨a0, trivial⟩ Tryd.underlying33 Tryd.sizeOf9 Tryd.zeroValue9 rfl rfl rfl ho.av) <|
            OblsR.cons (OblR.took 0 _ _ rfl rfl rfl rfl rfl fun A' R' w' ho hd u hok hav hin hop hds => by have a0 : R' 20 = ul_u1 := hd 0 _ _ _ rfl rfl rfl rfl rfl; have a1 : Rep (eSl eStr) A' w' (R' 25) ([(subL p0 y5 y6)] : List (List UInt8)) := hd 1 _ _ _ rfl rfl rfl rfl rfl; exact took_append (a0.trans (hin _ rfl).symm) hok hav (Nat.le_trans hF.size ho.ch.size) a1 Tryd.underlying33 el_9 e12) <|
            OblsR.cons (OblR.took 7 _ _ rfl rfl rfl rfl rfl fun A' R' w' ho hd u hok hav hin hop hds => by exact took_assign (hop _ _ rfl rfl rfl rfl).symm hok hav) <|
            OblsR.nil
        intro done ρ σ A R w hdn hI
        replace h0 : R 0 = v0 := (hI.reg rfl).trans h0
        replace h1 : R 1 = .int .u8 p1 := (hI.reg rfl).trans h1
        replace h7 : R 7 = .int .i64 y6 := (hI.reg rfl).trans h7
        obtain ⟨u13, e_u13⟩ : ∃ u, ρ 8 = u := ⟨_, rfl⟩
        have h5 : R 5 = u13 := (hI.opvR hdn 8 7 rfl rfl rfl rfl rfl).symm.trans e_u13
        replace f_v0 := f_v0.stp hI.stp
        replace hAA := hI.low' hAA hA0 (hO.ge (⟨rfl, trivial⟩))
        replace hF : Fr w0 w := hF.tr hI.ch (hO.ge (⟨rfl, trivial⟩))
        replace hO : IniOK [ob u13 (.vec w0.heap.size 9 eStr (y7 ++ ([(subL p0 y5 y6)] : List (List UInt8))))] A w := hI.left hdn [(8, ob u13 (.vec w0.heap.size 9 eStr (y7 ++ ([(subL p0 y5 y6)] : List (List UInt8)))))] ⟨rfl, rfl, e_u13, rfl, rfl, trivial⟩
        replace hA := hI.avok
        clear hI
        obtain ⟨e14, hr⟩ := ck_some hr
        refine HT.text (l := ⟨_, true, .raw (.int .i64 y6)⟩ :: ⟨_, true, .raw (.int .i64 (y6 + (1 : Int)))⟩ :: ⟨_, true, .raw (.int .i64 (y6 + (1 : Int)))⟩ :: []) (tl := []) (by kernel_rfl) (by kernel_rfl) (by kernel_rfl) ?_ ?_
        · exact
            Obls.cons (Obl.plain rfl rfl fun R' w' hw hs hd => by have a0 : R' 7 = .int .i64 y6 := (hs 7 rfl).trans h7; exact of_move a0) <|
            Obls.cons (Obl.plain rfl rfl fun R' w' hw hs hd => by have a0 : R' 27 = .int .i64 y6 := hd 0 _ _ _ rfl rfl rfl rfl rfl; exact of_add a0 rfl e14) <|
            Obls.cons (Obl.plain rfl rfl fun R' w' hw hs hd => by have a0 : R' 28 = .int .i64 (y6 + (1 : Int)) := hd 0 _ _ _ rfl rfl rfl rfl rfl; exact of_assign a0) <|
            Obls.nil
        intro R w hw hs hF'
        replace h0 : R 0 = v0 := (hs 0 rfl).trans h0
        replace h1 : R 1 = .int .u8 p1 := (hs 1 rfl).trans h1
        replace h5 : R 5 = u13 := (hs 5 rfl).trans h5
        replace h7 : R 7 = .int .i64 y6 := (hs 7 rfl).trans h7
        have h6 : R 6 = .int .i64 (y6 + (1 : Int)) := hF' 2 _ _ rfl rfl rfl
        replace f_v0 := f_v0.fr hw
        replace hO := hO.fr hw
        replace hA := hA.fr hw.size
        replace hF := hF.trans hw
        clear hs hF' hw
        refine seqR_nil ?_
        obtain ⟨e15, hr⟩ := ck_some hr
        refine HT.text (l := ⟨_, true, .raw (.int .i64 y6)⟩ :: ⟨_, true, .raw (.int .i64 (y6 + (1 : Int)))⟩ :: ⟨_, true, .raw (.int .i64 (y6 + (1 : Int)))⟩ :: []) (tl := []) (by kernel_rfl) (by kernel_rfl) (by kernel_rfl) ?_ ?_
        · exact
            Obls.cons (Obl.plain rfl rfl fun R' w' hw hs hd => by have a0 : R' 7 = .int .i64 y6 := (hs 7 rfl).trans h7; exact of_move a0) <|
            Obls.cons (Obl.plain rfl rfl fun R' w' hw hs hd => by have a0 : R' 13 = .int .i64 y6 := hd 0 _ _ _ rfl rfl rfl rfl rfl; exact of_add a0 rfl e15) <|
            Obls.cons (Obl.plain rfl rfl fun R' w' hw hs hd => by have a0 : R' 14 = .int .i64 (y6 + (1 : Int)) := hd 0 _ _ _ rfl rfl rfl rfl rfl; exact of_assign a0) <|
            Obls.nil
        intro R w hw hs hF'
        replace h0 : R 0 = v0 := (hs 0 rfl).trans h0
        replace h1 : R 1 = .int .u8 p1 := (hs 1 rfl).trans h1
        replace h5 : R 5 = u13 := (hs 5 rfl).trans h5
        replace h6 : R 6 = .int .i64 (y6 + (1 : Int)) := (hs 6 rfl).trans h6
        have h7 : R 7 = .int .i64 (y6 + (1 : Int)) := hF' 2 _ _ rfl rfl rfl
        replace f_v0 := f_v0.fr hw
        replace hO := hO.fr hw
        replace hA := hA.fr hw.size
        replace hF := hF.trans hw
        clear hs hF' hw
        refine seqR_nil ?_
        exact Exists.intro k (And.intro (Nat.lt_succ_self k) ⟨_, _, _, _, u13, hr, hA, hF, hAA, hO, h0, h1, h5, h6, h7, f_v0⟩)
      · have hr := cnd_f c10 hr
        refine HT.skip ?_
        obtain ⟨e16, hr⟩ := ck_some hr
        refine HT.text (l := ⟨_, true, .raw (.int .i64 y6)⟩ :: ⟨_, true, .raw (.int .i64 (y6 + (1 : Int)))⟩ :: ⟨_, true, .raw (.int .i64 (y6 + (1 : Int)))⟩ :: []) (tl := []) (by kernel_rfl) (by kernel_rfl) (by kernel_rfl) ?_ ?_
        · exact
            Obls.cons (Obl.plain rfl rfl fun R' w' hw hs hd => by have a0 : R' 7 = .int .i64 y6 := (hs 7 rfl).trans h7; exact of_move a0) <|
            Obls.cons (Obl.plain rfl rfl fun R' w' hw hs hd => by have a0 : R' 13 = .int .i64 y6 := hd 0 _ _ _ rfl rfl rfl rfl rfl; exact of_add a0 rfl e16) <|
            Obls.cons (Obl.plain rfl rfl fun R' w' hw hs hd => by have a0 : R' 14 = .int .i64 (y6 + (1 : Int)) := hd 0 _ _ _ rfl rfl rfl rfl rfl; exact of_assign a0) <|
            Obls.nil
        intro R w hw hs hF'
        replace h0 : R 0 = v0 := (hs 0 rfl).trans h0
        replace h1 : R 1 = .int .u8 p1 := (hs 1 rfl).trans h1
        replace h5 : R 5 = ul_u1 := (hs 5 rfl).trans h5
        replace h6 : R 6 = .int .i64 y5 := (hs 6 rfl).trans h6
        have h7 : R 7 = .int .i64 (y6 + (1 : Int)) := hF' 2 _ _ rfl rfl rfl
        replace f_v0 := f_v0.fr hw
        replace hO := hO.fr hw
        replace hA := hA.fr hw.size
        replace hF := hF.trans hw
        clear hs hF' hw
        refine seqR_nil ?_
        exact Exists.intro k (And.intro (Nat.lt_succ_self k) ⟨_, _, _, _, ul_u1, hr, hA, hF, hAA, hO, h0, h1, h5, h6, h7, f_v0⟩)
    · have hr := cnd_f c8 hr
      refine HT.exit ?_
      obtain rfl := Option.some.inj hr
      exact Exists.intro _ ⟨_, ul_u1, rfl, hA, hF, hAA, hO, h0, h5, h6, f_v0⟩
  rintro R w ⟨A, s4, uo_u1, es, hA, hF, hAA, hO, h0, h5, h6, f_v0⟩
  obtain rfl := es.symm
  refine HT.seq ?_
  obtain ⟨e17, hr⟩ := ck_some hr
  obtain ⟨e18, hr⟩ := ck_some hr
  refine HT.textR [ob uo_u1 (.vec w0.heap.size 9 eStr s4.2)] (⟨_, true, [], none, true, fun A => .raw uo_u1⟩ :: ⟨_, true, [], none, true, fun A => .raw v0⟩ :: ⟨_, true, [], none, true, fun A => .raw (.int .i64 s4.1)⟩ :: ⟨_, true, [], none, true, fun A => .rep eStr A (subL p0 s4.1 (p0.length : Int))⟩ :: ⟨_, true, [], none, true, fun A => .rep (eSl eStr) A ([(subL p0 s4.1 (p0.length : Int))] : List (List UInt8))⟩ :: ⟨_, true, [0], some (.vec w0.heap.size 9 eStr (s4.2 ++ ([(subL p0 s4.1 (p0.length : Int))] : List (List UInt8)))), true, fun A => .any⟩ :: ⟨_, true, [6], some (.vec w0.heap.size 9 eStr (s4.2 ++ ([(subL p0 s4.1 (p0.length : Int))] : List (List UInt8)))), true, fun A => .any⟩ :: []) (by kernel_rfl) (by kernel_rfl) (Wf.mk' (by kernel_rfl) (UAll.cons ust_raw (UAll.cons ust_raw (UAll.cons ust_raw (UAll.cons ust_rep (UAll.cons ust_rep (UAll.cons ust_any (UAll.cons ust_any (UAll.nil)))))))) (by kernel_rfl) (by kernel_rfl)) hO hA ?_ ?_
  · exact
      OblsR.cons (OblR.plain rfl rfl rfl rfl fun A' R' w' ho hd => by have a0 : R' 5 = uo_u1 := (ho.old 5 rfl).trans h5; exact of_move a0) <|
      OblsR.cons (OblR.plain rfl rfl rfl rfl fun A' R' w' ho hd => by have a0 : R' 0 = v0 := (ho.old 0 rfl).trans h0; exact of_move a0) <|
      OblsR.cons (OblR.plain rfl rfl rfl rfl fun A' R' w' ho hd => by have a0 : R' 6 = .int .i64 s4.1 := (ho.old 6 rfl).trans h6; exact of_move a0) <|
      OblsR.cons (OblR.plain rfl rfl rfl rfl fun A' R' w' ho hd => by have a0 : R' 30 = v0 := hd 0 _ _ _ rfl rfl rfl rfl rfl; have a1 : R' 31 = .int .i64 s4.1 := hd 1 _ _ _ rfl rfl rfl rfl rfl; have ra0 := (f_v0.stp ho.stp).eq a0; exact of_slice_str_lo ra0 a1 Tryd.underlying9  e17) <|
      OblsR.cons (OblR.plain rfl rfl rfl rfl fun A' R' w' ho hd => by have a0 : Rep eStr A' w' (R' 32) (subL p0 s4.1 (p0.length : Int)) := hd 0 _ _ _ rfl rfl rfl rfl rfl; exact of_build [_] (E := eStr) ⟨a0, trivial⟩ Tryd.underlying33 Tryd.sizeOf9 Tryd.zeroValue9 rfl rfl rfl ho.av) <|
      OblsR.cons (OblR.took 0 _ _ rfl rfl rfl rfl rfl fun A' R' w' ho hd u hok hav hin hop hds => by have a0 : R' 29 = uo_u1 := hd 0 _ _ _ rfl rfl rfl rfl rfl; have a1 : Rep (eSl eStr) A' w' (R' 33) ([(subL p0 s4.1 (p0.length : Int))] : List (List UInt8)) := hd 1 _ _ _ rfl rfl rfl rfl rfl; exact took_append (a0.trans (hin _ rfl).symm) hok hav (Nat.le_trans hF.size ho.ch.size) a1 Tryd.underlying33 el_9 e18) <|
      OblsR.cons (OblR.took 6 _ _ rfl rfl rfl rfl rfl fun A' R' w' ho hd u hok hav hin hop hds => by exact took_assign (hop _ _ rfl rfl rfl rfl).symm hok hav) <|
      OblsR.nil
  intro done ρ σ A R w hdn hI
  obtain ⟨u19, e_u19⟩ : ∃ u, ρ 7 = u := ⟨_, rfl⟩
  have h4 : R 4 = u19 := (hI.opvR hdn 7 6 rfl rfl rfl rfl rfl).symm.trans e_u19
  replace hAA := hI.low' hAA hA0 (hO.ge (⟨rfl, trivial⟩))
  replace hF : Fr w0 w := hF.tr hI.ch (hO.ge (⟨rfl, trivial⟩))
  replace hO : IniOK [ob u19 (.vec w0.heap.size 9 eStr (s4.2 ++ ([(subL p0 s4.1 (p0.length : Int))] : List (List UInt8))))] A w := hI.left hdn [(7, ob u19 (.vec w0.heap.size 9 eStr (s4.2 ++ ([(subL p0 s4.1 (p0.length : Int))] : List (List UInt8)))))] ⟨rfl, rfl, e_u19, rfl, rfl, trivial⟩
  replace hA := hI.avok
  clear hI
  refine HT.ret ?_
  obtain rfl := Option.some.inj hr
  exact ⟨.inr rfl, [R 4], ⟨rfl, trivial⟩, (own_post (hO.ok 0 _ rfl) hAA h4), hF⟩
theorem M_spec_l2Cut_okR {fu : Nat} {A0 : Av} {p0 : List UInt8} {p1 : Int} {r : List (List UInt8)} (hr : M_spec_l2Cut fu p0 p1 = some r) {w : World} {v0 : Value} {v1 : Value} (hA : AvOK A0 w) (h0 : Rep eStr A0 w v0 p0) (h1 : v1 = .int .u8 p1) :
    Calls Tryd.prog 9 #[v0, v1] w fun e w' => ∃ v, e = .returned v ∧ (Rep (eSl eStr) A0 w' v r ∧ Fr w w') := by
  refine Calls.mono (M_spec_l2Cut_ok hr hA h0 h1) ?_
  rintro e w' ⟨v, he, hv, hf⟩
  exact ⟨v, he, vec_rep hv (fun b o h => .inl h) hA, hf⟩
def M_spec_l1In (fu : Nat) (p0 : Int) (p1 : Int) (p2 : Int) : Option Bool :=
  bd ((decide (p1 ≤ p0)) && (decide (p0 ≤ p2))) fun x1 =>
  some x1
set_option maxRecDepth 100000 in
set_option maxHeartbeats 4000000 in
theorem M_spec_l1In_ok {fu : Nat} {A : Av} {p0 : Int} {p1 : Int} {p2 : Int} {r : Bool} (hr : M_spec_l1In fu p0 p1 p2 = some r) {w : World} {v0 : Value} {v1 : Value} {v2 : Value} (hA : AvOK A w) (h0 : v0 = .int .i64 p0) (h1 : v1 = .int .i64 p1) (h2 : v2 = .int .i64 p2) :
    Calls Tryd.prog 32 #[v0, v1, v2] w fun e w' => ∃ v, e = .returned v ∧ (v = .bool r ∧ Fr w w') := by
  unfold M_spec_l1In at hr
  obtain ⟨w0, hw0⟩ : ∃ w0, w0 = w := ⟨_, rfl⟩
  have hF : Fr w0 w := hw0 ▸ Fr.refl _
  rw [show Fr w = Fr w0 from hw0 ▸ rfl]
  clear hw0
  refine calls_of_HT2 [.tmp 6] Tryd.func32 Tryd.ntmps32 (by decide) rfl rfl (Nat.le_of_ble_eq_true rfl) ?_
  intro R hR
  replace h0 : R 0 = .int .i64 p0 := (hR 0 _ rfl).trans h0
  replace h1 : R 1 = .int .i64 p1 := (hR 1 _ rfl).trans h1
  replace h2 : R 2 = .int .i64 p2 := (hR 2 _ rfl).trans h2
  clear hR
  refine HT.seq ?_
  refine HT.text (l := ⟨_, true, .raw (.bool false)⟩ :: []) (tl := []) (by kernel_rfl) (by kernel_rfl) (by kernel_rfl) ?_ ?_
  · exact
      Obls.cons (Obl.plain rfl rfl fun R' w' hw hs hd => by exact of_assign rfl) <|
      Obls.nil
  intro R w hw hs hF'
  replace h0 : R 0 = .int .i64 p0 := (hs 0 rfl).trans h0
  replace h1 : R 1 = .int .i64 p1 := (hs 1 rfl).trans h1
  replace h2 : R 2 = .int .i64 p2 := (hs 2 rfl).trans h2
  replace hA := hA.fr hw.size
  replace hF := hF.trans hw
  clear hs hF' hw
  refine seqR_nil ?_
  refine HT.seq ?_
  obtain ⟨x1, q2, hr⟩ := bd_some hr
  refine HT.text (l := ⟨_, true, .raw (.int .i64 p0)⟩ :: ⟨_, true, .raw (.int .i64 p1)⟩ :: ⟨_, true, .raw (.bool (decide (p1 ≤ p0)))⟩ :: ⟨_, true, .raw (.bool (decide (p1 ≤ p0)))⟩ :: ⟨_, (true && ((decide (p1 ≤ p0)) == true)), .raw (.int .i64 p0)⟩ :: ⟨_, (true && ((decide (p1 ≤ p0)) == true)), .raw (.int .i64 p2)⟩ :: ⟨_, (true && ((decide (p1 ≤ p0)) == true)), .raw (.bool (decide (p0 ≤ p2)))⟩ :: ⟨_, true, .raw (.bool x1)⟩ :: ⟨_, true, .raw (.bool x1)⟩ :: []) (tl := []) (by kernel_rfl) (by kernel_rfl) (by kernel_rfl) ?_ ?_
  · exact
      Obls.cons (Obl.plain rfl rfl fun R' w' hw hs hd => by have a0 : R' 0 = .int .i64 p0 := (hs 0 rfl).trans h0; exact of_move a0) <|
      Obls.cons (Obl.plain rfl rfl fun R' w' hw hs hd => by have a0 : R' 1 = .int .i64 p1 := (hs 1 rfl).trans h1; exact of_move a0) <|
      Obls.cons (Obl.plain rfl rfl fun R' w' hw hs hd => by have a0 : R' 7 = .int .i64 p0 := hd 0 _ _ _ rfl rfl rfl rfl rfl; have a1 : R' 8 = .int .i64 p1 := hd 1 _ _ _ rfl rfl rfl rfl rfl; exact of_geq a0 a1) <|
      Obls.cons (Obl.plain rfl rfl fun R' w' hw hs hd => by have a0 : R' 9 = .bool (decide (p1 ≤ p0)) := hd 0 _ _ _ rfl rfl rfl rfl rfl; exact of_move a0) <|
      Obls.cons (Obl.grd 3 true _ _ _ rfl rfl rfl rfl rfl (by kernel_rfl) fun hg R' w' hw hs hd => by have a0 : R' 0 = .int .i64 p0 := (hs 0 rfl).trans h0; exact of_move a0) <|
      Obls.cons (Obl.grd 3 true _ _ _ rfl rfl rfl rfl rfl (by kernel_rfl) fun hg R' w' hw hs hd => by have a0 : R' 2 = .int .i64 p2 := (hs 2 rfl).trans h2; exact of_move a0) <|
      Obls.cons (Obl.grd 3 true _ _ _ rfl rfl rfl rfl rfl (by kernel_rfl) fun hg R' w' hw hs hd => by have a0 : R' 11 = .int .i64 p0 := hd 0 _ _ _ rfl rfl rfl rfl hg; have a1 : R' 12 = .int .i64 p2 := hd 1 _ _ _ rfl rfl rfl rfl hg; exact of_leq a0 a1) <|
      Obls.cons (Obl.plain rfl rfl fun R' w' hw hs hd => by have a0 : R' 10 = .bool (decide (p1 ≤ p0)) := hd 0 _ _ _ rfl rfl rfl rfl rfl; exact of_pick (decide (p1 ≤ p0)) a0 (fun hc => by have a1 : R' 13 = .bool (decide (p0 ≤ p2)) := hd 1 _ _ _ rfl rfl rfl rfl (g_and rfl (beq_of hc)); show _ = Value.bool x1; rw [q2, hc]; exact a1) (fun hc => by show _ = Value.bool x1; rw [q2, hc]; exact rfl)) <|
      Obls.cons (Obl.plain rfl rfl fun R' w' hw hs hd => by have a0 : R' 14 = .bool x1 := hd 0 _ _ _ rfl rfl rfl rfl rfl; exact of_assign a0) <|
      Obls.nil
  intro R w hw hs hF'
  have h6 : R 6 = .bool x1 := hF' 8 _ _ rfl rfl rfl
  replace hA := hA.fr hw.size
  replace hF := hF.trans hw
  clear hs hF' hw
  refine seqR_nil ?_
  refine HT.ret ?_
  obtain rfl := Option.some.inj hr
  exact ⟨.inr rfl, [R 6], ⟨rfl, trivial⟩, h6, hF⟩
def M_spec_FeatureName (fu : Nat) (p0 : Int) : Option (List UInt8) :=
  cl true (M_spec_l1In fu p0 (0 : Int) (5 : Int)) fun x1 =>
  bif (!x1) then (
    some ([] : List UInt8)
  ) else (
    ck (inR p0 ([([110, 97, 109, 101] : List UInt8), ([116, 111, 107, 101, 110, 115] : List UInt8), ([115, 111, 117, 110, 100] : List UInt8), ([99, 105, 116, 121] : List UInt8), ([121, 101, 97, 114] : List UInt8), ([112, 104, 111, 110, 101] : List UInt8)] : List (List UInt8)).length) <|
    some (gtD ([([110, 97, 109, 101] : List UInt8), ([116, 111, 107, 101, 110, 115] : List UInt8), ([115, 111, 117, 110, 100] : List UInt8), ([99, 105, 116, 121] : List UInt8), ([121, 101, 97, 114] : List UInt8), ([112, 104, 111, 110, 101] : List UInt8)] : List (List UInt8)) p0)
  )
set_option maxRecDepth 100000 in
set_option maxHeartbeats 4000000 in
theorem M_spec_FeatureName_ok {fu : Nat} {A : Av} {p0 : Int} {r : List UInt8} (hr : M_spec_FeatureName fu p0 = some r) {w : World} {v0 : Value} (hA : AvOK A w) (h0 : v0 = .int .i64 p0) :
    Calls Tryd.prog 18 #[v0] w fun e w' => ∃ v, e = .returned v ∧ (Rep eStr A w' v r ∧ Fr w w') := by
  unfold M_spec_FeatureName at hr
  obtain ⟨w0, hw0⟩ : ∃ w0, w0 = w := ⟨_, rfl⟩
  have hF : Fr w0 w := hw0 ▸ Fr.refl _
  rw [show Fr w = Fr w0 from hw0 ▸ rfl]
  clear hw0
  refine calls_of_HT2 [.tmp 2] Tryd.func18 Tryd.ntmps18 (by decide) rfl rfl (Nat.le_of_ble_eq_true rfl) ?_
  intro R hR
  replace h0 : R 0 = .int .i64 p0 := (hR 0 _ rfl).trans h0
  clear hR
  refine HT.seq ?_
  refine HT.text (l := ⟨_, true, .rep eStr A ([] : List UInt8)⟩ :: []) (tl := []) (by kernel_rfl) (by kernel_rfl) (by kernel_rfl) ?_ ?_
  · exact
      Obls.cons (Obl.plain rfl rfl fun R' w' hw hs hd => by exact of_assign ⟨_, rfl, ⟨_, rfl, rfl, by decide⟩⟩) <|
      Obls.nil
  intro R w hw hs hF'
  replace h0 : R 0 = .int .i64 p0 := (hs 0 rfl).trans h0
  replace hA := hA.fr hw.size
  replace hF := hF.trans hw
  clear hs hF' hw
  refine seqR_nil ?_
  refine HT.seq ?_
  refine HT.seq ?_
  obtain ⟨x1, q2, hr⟩ := cl_some hr
  refine HT.text (l := ⟨_, true, .raw (.int .i64 p0)⟩ :: ⟨_, true, .raw (.bool x1)⟩ :: ⟨_, true, .raw (.bool (!x1))⟩ :: []) (tl := []) (by kernel_rfl) (by kernel_rfl) (by kernel_rfl) ?_ ?_
  · exact
      Obls.cons (Obl.plain rfl rfl fun R' w' hw hs hd => by have a0 : R' 0 = .int .i64 p0 := (hs 0 rfl).trans h0; exact of_move a0) <|
      Obls.cons (Obl.plain rfl rfl fun R' w' hw hs hd => by have a0 : R' 3 = .int .i64 p0 := hd 0 _ _ _ rfl rfl rfl rfl rfl; exact of_call Tryd.call32 (M_spec_l1In_ok (q2 rfl) (hA.fr hw.size) a0 rfl rfl)) <|
      Obls.cons (Obl.plain rfl rfl fun R' w' hw hs hd => by have a0 : R' 4 = .bool x1 := hd 0 _ _ _ rfl rfl rfl rfl rfl; exact of_not a0) <|
      Obls.nil
  intro R w hw hs hF'
  replace h0 : R 0 = .int .i64 p0 := (hs 0 rfl).trans h0
  have h5 : R 5 = .bool (!x1) := hF' 2 _ _ rfl rfl rfl
  replace hA := hA.fr hw.size
  replace hF := hF.trans hw
  clear hs hF' hw
  refine seqR_nil ?_
  refine HT.cond (!x1) h5 (fun c3 => ?_) (fun c3 => ?_)
  · have hr := cnd_t c3 hr
    refine HT.seq ?_
    refine HT.text (l := ⟨_, true, .rep eStr A ([] : List UInt8)⟩ :: []) (tl := []) (by kernel_rfl) (by kernel_rfl) (by kernel_rfl) ?_ ?_
    · exact
        Obls.cons (Obl.plain rfl rfl fun R' w' hw hs hd => by exact of_assign ⟨_, rfl, ⟨_, rfl, rfl, by decide⟩⟩) <|
        Obls.nil
    intro R w hw hs hF'
    obtain ⟨u4, h2, f_u4⟩ : ∃ u, R 2 = u ∧ Rep eStr A w u ([] : List UInt8) := ⟨_, rfl, hF' 0 _ _ rfl rfl rfl⟩
    replace hA := hA.fr hw.size
    replace hF := hF.trans hw
    clear hs hF' hw
    refine seqR_nil ?_
    refine HT.ret ?_
    obtain rfl := Option.some.inj hr
    exact ⟨.inr rfl, [R 2], ⟨rfl, trivial⟩, (f_u4.eq h2), hF⟩
  · have hr := cnd_f c3 hr
    refine HT.skip ?_
    refine HT.seq ?_
    obtain ⟨e5, hr⟩ := ck_some hr
    refine HT.text (l := ⟨_, true, .rep (eSl eStr) A ([([110, 97, 109, 101] : List UInt8), ([116, 111, 107, 101, 110, 115] : List UInt8), ([115, 111, 117, 110, 100] : List UInt8), ([99, 105, 116, 121] : List UInt8), ([121, 101, 97, 114] : List UInt8), ([112, 104, 111, 110, 101] : List UInt8)] : List (List UInt8))⟩ :: ⟨_, true, .raw (.int .i64 p0)⟩ :: ⟨_, true, .qtr eStr A (gtD ([([110, 97, 109, 101] : List UInt8), ([116, 111, 107, 101, 110, 115] : List UInt8), ([115, 111, 117, 110, 100] : List UInt8), ([99, 105, 116, 121] : List UInt8), ([121, 101, 97, 114] : List UInt8), ([112, 104, 111, 110, 101] : List UInt8)] : List (List UInt8)) p0)⟩ :: ⟨_, true, .rep eStr A (gtD ([([110, 97, 109, 101] : List UInt8), ([116, 111, 107, 101, 110, 115] : List UInt8), ([115, 111, 117, 110, 100] : List UInt8), ([99, 105, 116, 121] : List UInt8), ([121, 101, 97, 114] : List UInt8), ([112, 104, 111, 110, 101] : List UInt8)] : List (List UInt8)) p0)⟩ :: ⟨_, true, .rep eStr A (gtD ([([110, 97, 109, 101] : List UInt8), ([116, 111, 107, 101, 110, 115] : List UInt8), ([115, 111, 117, 110, 100] : List UInt8), ([99, 105, 116, 121] : List UInt8), ([121, 101, 97, 114] : List UInt8), ([112, 104, 111, 110, 101] : List UInt8)] : List (List UInt8)) p0)⟩ :: []) (tl := []) (by kernel_rfl) (by kernel_rfl) (by kernel_rfl) ?_ ?_
    · exact
        Obls.cons (Obl.plain rfl rfl fun R' w' hw hs hd => by exact of_build [_, _, _, _, _, _] (E := eStr) ⟨⟨_, rfl, ⟨_, rfl, rfl, by decide⟩⟩, ⟨⟨_, rfl, ⟨_, rfl, rfl, by decide⟩⟩, ⟨⟨_, rfl, ⟨_, rfl, rfl, by decide⟩⟩, ⟨⟨_, rfl, ⟨_, rfl, rfl, by decide⟩⟩, ⟨⟨_, rfl, ⟨_, rfl, rfl, by decide⟩⟩, ⟨⟨_, rfl, ⟨_, rfl, rfl, by decide⟩⟩, trivial⟩⟩⟩⟩⟩⟩ Tryd.underlying33 Tryd.sizeOf9 Tryd.zeroValue9 rfl rfl rfl (hA.fr hw.size)) <|
        Obls.cons (Obl.plain rfl rfl fun R' w' hw hs hd => by have a0 : R' 0 = .int .i64 p0 := (hs 0 rfl).trans h0; exact of_move a0) <|
        Obls.cons (Obl.plain rfl rfl fun R' w' hw hs hd => by have a0 : Rep (eSl eStr) A w' (R' 6) ([([110, 97, 109, 101] : List UInt8), ([116, 111, 107, 101, 110, 115] : List UInt8), ([115, 111, 117, 110, 100] : List UInt8), ([99, 105, 116, 121] : List UInt8), ([121, 101, 97, 114] : List UInt8), ([112, 104, 111, 110, 101] : List UInt8)] : List (List UInt8)) := hd 0 _ _ _ rfl rfl rfl rfl rfl; have a1 : R' 7 = .int .i64 p0 := hd 1 _ _ _ rfl rfl rfl rfl rfl; exact of_indexAddr a0 a1 Tryd.underlying33 Tryd.sizeOf9 e5) <|
        Obls.cons (Obl.plain rfl rfl fun R' w' hw hs hd => by have a0 : QRep eStr A w' (R' 8) (gtD ([([110, 97, 109, 101] : List UInt8), ([116, 111, 107, 101, 110, 115] : List UInt8), ([115, 111, 117, 110, 100] : List UInt8), ([99, 105, 116, 121] : List UInt8), ([121, 101, 97, 114] : List UInt8), ([112, 104, 111, 110, 101] : List UInt8)] : List (List UInt8)) p0) := hd 0 _ _ _ rfl rfl rfl rfl rfl; exact (of_load a0.ptr Tryd.isAgg9 Tryd.sizeOf9)) <|
        Obls.cons (Obl.plain rfl rfl fun R' w' hw hs hd => by have a0 : Rep eStr A w' (R' 9) (gtD ([([110, 97, 109, 101] : List UInt8), ([116, 111, 107, 101, 110, 115] : List UInt8), ([115, 111, 117, 110, 100] : List UInt8), ([99, 105, 116, 121] : List UInt8), ([121, 101, 97, 114] : List UInt8), ([112, 104, 111, 110, 101] : List UInt8)] : List (List UInt8)) p0) := hd 0 _ _ _ rfl rfl rfl rfl rfl; exact of_assign a0) <|
        Obls.nil
    intro R w hw hs hF'
    obtain ⟨u6, h2, f_u6⟩ : ∃ u, R 2 = u ∧ Rep eStr A w u (gtD ([([110, 97, 109, 101] : List UInt8), ([116, 111, 107, 101, 110, 115] : List UInt8), ([115, 111, 117, 110, 100] : List UInt8), ([99, 105, 116, 121] : List UInt8), ([121, 101, 97, 114] : List UInt8), ([112, 104, 111, 110, 101] : List UInt8)] : List (List UInt8)) p0) := ⟨_, rfl, hF' 4 _ _ rfl rfl rfl⟩
    replace hA := hA.fr hw.size
    replace hF := hF.trans hw
    clear hs hF' hw
    refine seqR_nil ?_
    refine HT.ret ?_
    obtain rfl := Option.some.inj hr
    exact ⟨.inr rfl, [R 2], ⟨rfl, trivial⟩, (f_u6.eq h2), hF⟩
def M_spec_FormatInt_L0 (fu : Nat) : Nat → Int → (List UInt8) → Option (List UInt8)
  | 0, _, _ => none
  | k + 1, y7, y8 =>
    bif (y7 != (0 : Int)) then (
      ck ((10 : Int) != 0) <|
      bif (decide ((y7.tmod (10 : Int)) < (0 : Int))) then (
        ck (i64B (0 - (y7.tmod (10 : Int)))) <|
        ck (i64B ((48 : Int) + (0 - (y7.tmod (10 : Int))))) <|
        ck (lenOK ((strB ([(IntKind.u8.wrap ((48 : Int) + (0 - (y7.tmod (10 : Int)))))] : List Int)) ++ y8).length) <|
        ck ((10 : Int) != 0) <|
        ck (i64B (y7.tdiv (10 : Int))) <|
        M_spec_FormatInt_L0 fu k (y7.tdiv (10 : Int)) ((strB ([(IntKind.u8.wrap ((48 : Int) + (0 - (y7.tmod (10 : Int)))))] : List Int)) ++ y8)
      ) else (
        ck (i64B ((48 : Int) + (y7.tmod (10 : Int)))) <|
        ck (lenOK ((strB ([(IntKind.u8.wrap ((48 : Int) + (y7.tmod (10 : Int))))] : List Int)) ++ y8).length) <|
        ck ((10 : Int) != 0) <|
        ck (i64B (y7.tdiv (10 : Int))) <|
        M_spec_FormatInt_L0 fu k (y7.tdiv (10 : Int)) ((strB ([(IntKind.u8.wrap ((48 : Int) + (y7.tmod (10 : Int))))] : List Int)) ++ y8)
      )
    ) else (
      some y8
    )
def M_spec_FormatInt (fu : Nat) (p0 : Int) : Option (List UInt8) :=
  bif (p0 == (0 : Int)) then (
    some ([48] : List UInt8)
  ) else (
    cl true (M_spec_FormatInt_L0 fu fu p0 ([] : List UInt8)) fun s6 =>
    bif (decide (p0 < (0 : Int))) then (
      ck (lenOK (([45] : List UInt8) ++ s6).length) <|
      some (([45] : List UInt8) ++ s6)
    ) else (
      some s6
    )
  )
set_option maxRecDepth 100000 in
set_option maxHeartbeats 4000000 in
theorem M_spec_FormatInt_ok {fu : Nat} {A : Av} {p0 : Int} {r : List UInt8} (hr : M_spec_FormatInt fu p0 = some r) {w : World} {v0 : Value} (hA : AvOK A w) (h0 : v0 = .int .i64 p0) :
    Calls Tryd.prog 21 #[v0] w fun e w' => ∃ v, e = .returned v ∧ (Rep eStr A w' v r ∧ Fr w w') := by
  unfold M_spec_FormatInt at hr
  obtain ⟨w0, hw0⟩ : ∃ w0, w0 = w := ⟨_, rfl⟩
  have hF : Fr w0 w := hw0 ▸ Fr.refl _
  rw [show Fr w = Fr w0 from hw0 ▸ rfl]
  clear hw0
  refine calls_of_HT2 [.tmp 2] Tryd.func21 Tryd.ntmps21 (by decide) rfl rfl (Nat.le_of_ble_eq_true rfl) ?_
  intro R hR
  replace h0 : R 0 = .int .i64 p0 := (hR 0 _ rfl).trans h0
  clear hR
  refine HT.seq ?_
  refine HT.text (l := ⟨_, true, .rep eStr A ([] : List UInt8)⟩ :: []) (tl := []) (by kernel_rfl) (by kernel_rfl) (by kernel_rfl) ?_ ?_
  · exact
      Obls.cons (Obl.plain rfl rfl fun R' w' hw hs hd => by exact of_assign ⟨_, rfl, ⟨_, rfl, rfl, by decide⟩⟩) <|
      Obls.nil
  intro R w hw hs hF'
  replace h0 : R 0 = .int .i64 p0 := (hs 0 rfl).trans h0
  replace hA := hA.fr hw.size
  replace hF := hF.trans hw
  clear hs hF' hw
  refine seqR_nil ?_
  refine HT.seq ?_
  refine HT.seq ?_
  refine HT.text (l := ⟨_, true, .raw (.int .i64 p0)⟩ :: ⟨_, true, .raw (.bool (p0 == (0 : Int)))⟩ :: []) (tl := []) (by kernel_rfl) (by kernel_rfl) (by kernel_rfl) ?_ ?_
  · exact
      Obls.cons (Obl.plain rfl rfl fun R' w' hw hs hd => by have a0 : R' 0 = .int .i64 p0 := (hs 0 rfl).trans h0; exact of_move a0) <|
      Obls.cons (Obl.plain rfl rfl fun R' w' hw hs hd => by have a0 : R' 6 = .int .i64 p0 := hd 0 _ _ _ rfl rfl rfl rfl rfl; exact of_eql a0 rfl) <|
      Obls.nil
  intro R w hw hs hF'
  replace h0 : R 0 = .int .i64 p0 := (hs 0 rfl).trans h0
  have h7 : R 7 = .bool (p0 == (0 : Int)) := hF' 1 _ _ rfl rfl rfl
  replace hA := hA.fr hw.size
  replace hF := hF.trans hw
  clear hs hF' hw
  refine seqR_nil ?_
  refine HT.cond (p0 == (0 : Int)) h7 (fun c1 => ?_) (fun c1 => ?_)
  · have hr := cnd_t c1 hr
    refine HT.seq ?_
    refine HT.text (l := ⟨_, true, .rep eStr A ([48] : List UInt8)⟩ :: []) (tl := []) (by kernel_rfl) (by kernel_rfl) (by kernel_rfl) ?_ ?_
    · exact
        Obls.cons (Obl.plain rfl rfl fun R' w' hw hs hd => by exact of_assign ⟨_, rfl, ⟨_, rfl, rfl, by decide⟩⟩) <|
        Obls.nil
    intro R w hw hs hF'
    obtain ⟨u2, h2, f_u2⟩ : ∃ u, R 2 = u ∧ Rep eStr A w u ([48] : List UInt8) := ⟨_, rfl, hF' 0 _ _ rfl rfl rfl⟩
    replace hA := hA.fr hw.size
    replace hF := hF.trans hw
    clear hs hF' hw
    refine seqR_nil ?_
    refine HT.ret ?_
    obtain rfl := Option.some.inj hr
    exact ⟨.inr rfl, [R 2], ⟨rfl, trivial⟩, (f_u2.eq h2), hF⟩
  · have hr := cnd_f c1 hr
    refine HT.skip ?_
    refine HT.seq ?_
    refine HT.text (l := ⟨_, true, .rep eStr A ([] : List UInt8)⟩ :: []) (tl := []) (by kernel_rfl) (by kernel_rfl) (by kernel_rfl) ?_ ?_
    · exact
        Obls.cons (Obl.plain rfl rfl fun R' w' hw hs hd => by exact of_assign ⟨_, rfl, ⟨_, rfl, rfl, by decide⟩⟩) <|
        Obls.nil
    intro R w hw hs hF'
    replace h0 : R 0 = .int .i64 p0 := (hs 0 rfl).trans h0
    obtain ⟨u3, h3, f_u3⟩ : ∃ u, R 3 = u ∧ Rep eStr A w u ([] : List UInt8) := ⟨_, rfl, hF' 0 _ _ rfl rfl rfl⟩
    replace hA := hA.fr hw.size
    replace hF := hF.trans hw
    clear hs hF' hw
    refine seqR_nil ?_
    refine HT.seq ?_
    refine HT.text (l := ⟨_, true, .raw (.int .i64 p0)⟩ :: ⟨_, true, .raw (.bool (decide (p0 < (0 : Int))))⟩ :: ⟨_, true, .raw (.bool (decide (p0 < (0 : Int))))⟩ :: []) (tl := []) (by kernel_rfl) (by kernel_rfl) (by kernel_rfl) ?_ ?_
    · exact
        Obls.cons (Obl.plain rfl rfl fun R' w' hw hs hd => by have a0 : R' 0 = .int .i64 p0 := (hs 0 rfl).trans h0; exact of_move a0) <|
        Obls.cons (Obl.plain rfl rfl fun R' w' hw hs hd => by have a0 : R' 8 = .int .i64 p0 := hd 0 _ _ _ rfl rfl rfl rfl rfl; exact of_lss a0 rfl) <|
        Obls.cons (Obl.plain rfl rfl fun R' w' hw hs hd => by have a0 : R' 9 = .bool (decide (p0 < (0 : Int))) := hd 0 _ _ _ rfl rfl rfl rfl rfl; exact of_assign a0) <|
        Obls.nil
    intro R w hw hs hF'
    replace h0 : R 0 = .int .i64 p0 := (hs 0 rfl).trans h0
    replace h3 : R 3 = u3 := (hs 3 rfl).trans h3
    have h4 : R 4 = .bool (decide (p0 < (0 : Int))) := hF' 2 _ _ rfl rfl rfl
    replace f_u3 := f_u3.fr hw
    replace hA := hA.fr hw.size
    replace hF := hF.trans hw
    clear hs hF' hw
    refine seqR_nil ?_
    obtain ⟨rl4, q5, hr⟩ := cl_some hr
    replace q5 := q5 rfl
    refine HT.cut (fun R w => ∃ (s6 : (List UInt8)) (wo_3 : Value), rl4 = s6 ∧ AvOK A w ∧ Fr w0 w ∧ R 3 = wo_3 ∧ R 4 = .bool (decide (p0 < (0 : Int))) ∧ Rep eStr A w wo_3 s6) ?_ ?_
    · refine HT.block ?_
      refine HT.loop (fun k R w => ∃ (y7 : Int) (y8 : List UInt8) (wl_3 : Value), M_spec_FormatInt_L0 fu k y7 y8 = some rl4 ∧ AvOK A w ∧ Fr w0 w ∧ R 0 = .int .i64 y7 ∧ R 3 = wl_3 ∧ R 4 = .bool (decide (p0 < (0 : Int))) ∧ Rep eStr A w wl_3 y8) fu ⟨_, _, u3, q5, hA, hF, h0, h3, h4, f_u3⟩ ?_
      have hr0 := hr; clear hr q5
      rintro k R w ⟨y7, y8, wl_3, hr, hA, hF, h0, h3, h4, f_wl_3⟩
      rcases k with _ | k
      · cases (show none = some _ from hr)
      rw [M_spec_FormatInt_L0] at hr
      refine HT.seq ?_
      refine HT.seq ?_
      refine HT.text (l := ⟨_, true, .raw (.int .i64 y7)⟩ :: ⟨_, true, .raw (.bool (y7 != (0 : Int)))⟩ :: []) (tl := []) (by kernel_rfl) (by kernel_rfl) (by kernel_rfl) ?_ ?_
      · exact
          Obls.cons (Obl.plain rfl rfl fun R' w' hw hs hd => by have a0 : R' 0 = .int .i64 y7 := (hs 0 rfl).trans h0; exact of_move a0) <|
          Obls.cons (Obl.plain rfl rfl fun R' w' hw hs hd => by have a0 : R' 10 = .int .i64 y7 := hd 0 _ _ _ rfl rfl rfl rfl rfl; exact of_neq a0 rfl) <|
          Obls.nil
      intro R w hw hs hF'
      replace h0 : R 0 = .int .i64 y7 := (hs 0 rfl).trans h0
      replace h3 : R 3 = wl_3 := (hs 3 rfl).trans h3
      replace h4 : R 4 = .bool (decide (p0 < (0 : Int))) := (hs 4 rfl).trans h4
      have h11 : R 11 = .bool (y7 != (0 : Int)) := hF' 1 _ _ rfl rfl rfl
      replace f_wl_3 := f_wl_3.fr hw
      replace hA := hA.fr hw.size
      replace hF := hF.trans hw
      clear hs hF' hw
      refine seqR_nil ?_
      refine HT.cond (y7 != (0 : Int)) h11 (fun c9 => ?_) (fun c9 => ?_)
      · have hr := cnd_t c9 hr
        refine HT.skip ?_
        refine HT.block ?_
        refine HT.seq ?_
        obtain ⟨e10, hr⟩ := ck_some hr
        refine HT.text (l := ⟨_, true, .raw (.int .i64 y7)⟩ :: ⟨_, true, .raw (.int .i64 (y7.tmod (10 : Int)))⟩ :: ⟨_, true, .raw (.int .i64 (y7.tmod (10 : Int)))⟩ :: []) (tl := []) (by kernel_rfl) (by kernel_rfl) (by kernel_rfl) ?_ ?_
        · exact
            Obls.cons (Obl.plain rfl rfl fun R' w' hw hs hd => by have a0 : R' 0 = .int .i64 y7 := (hs 0 rfl).trans h0; exact of_move a0) <|
            Obls.cons (Obl.plain rfl rfl fun R' w' hw hs hd => by have a0 : R' 12 = .int .i64 y7 := hd 0 _ _ _ rfl rfl rfl rfl rfl; exact of_rem a0 rfl e10) <|
            Obls.cons (Obl.plain rfl rfl fun R' w' hw hs hd => by have a0 : R' 13 = .int .i64 (y7.tmod (10 : Int)) := hd 0 _ _ _ rfl rfl rfl rfl rfl; exact of_assign a0) <|
            Obls.nil
        intro R w hw hs hF'
        replace h0 : R 0 = .int .i64 y7 := (hs 0 rfl).trans h0
        replace h3 : R 3 = wl_3 := (hs 3 rfl).trans h3
        replace h4 : R 4 = .bool (decide (p0 < (0 : Int))) := (hs 4 rfl).trans h4
        have h5 : R 5 = .int .i64 (y7.tmod (10 : Int)) := hF' 2 _ _ rfl rfl rfl
        replace f_wl_3 := f_wl_3.fr hw
        replace hA := hA.fr hw.size
        replace hF := hF.trans hw
        clear hs hF' hw
        refine seqR_nil ?_
        refine HT.seq ?_
        refine HT.seq ?_
        refine HT.text (l := ⟨_, true, .raw (.int .i64 (y7.tmod (10 : Int)))⟩ :: ⟨_, true, .raw (.bool (decide ((y7.tmod (10 : Int)) < (0 : Int))))⟩ :: []) (tl := []) (by kernel_rfl) (by kernel_rfl) (by kernel_rfl) ?_ ?_
        · exact
            Obls.cons (Obl.plain rfl rfl fun R' w' hw hs hd => by have a0 : R' 5 = .int .i64 (y7.tmod (10 : Int)) := (hs 5 rfl).trans h5; exact of_move a0) <|
            Obls.cons (Obl.plain rfl rfl fun R' w' hw hs hd => by have a0 : R' 14 = .int .i64 (y7.tmod (10 : Int)) := hd 0 _ _ _ rfl rfl rfl rfl rfl; exact of_lss a0 rfl) <|
            Obls.nil
        intro R w hw hs hF'
        replace h0 : R 0 = .int .i64 y7 := (hs 0 rfl).trans h0
        replace h3 : R 3 = wl_3 := (hs 3 rfl).trans h3
        replace h4 : R 4 = .bool (decide (p0 < (0 : Int))) := (hs 4 rfl).trans h4
        replace h5 : R 5 = .int .i64 (y7.tmod (10 : Int)) := (hs 5 rfl).trans h5
        have h15 : R 15 = .bool (decide ((y7.tmod (10 : Int)) < (0 : Int))) := hF' 1 _ _ rfl rfl rfl
        replace f_wl_3 := f_wl_3.fr hw
        replace hA := hA.fr hw.size
        replace hF := hF.trans hw
        clear hs hF' hw
        refine seqR_nil ?_
        refine HT.cond (decide ((y7.tmod (10 : Int)) < (0 : Int))) h15 (fun c11 => ?_) (fun c11 => ?_)
        · have hr := cnd_t c11 hr
          obtain ⟨e12, hr⟩ := ck_some hr
          refine HT.text (l := ⟨_, true, .raw (.int .i64 (y7.tmod (10 : Int)))⟩ :: ⟨_, true, .raw (.int .i64 (0 - (y7.tmod (10 : Int))))⟩ :: ⟨_, true, .raw (.int .i64 (0 - (y7.tmod (10 : Int))))⟩ :: []) (tl := []) (by kernel_rfl) (by kernel_rfl) (by kernel_rfl) ?_ ?_
          · exact
              Obls.cons (Obl.plain rfl rfl fun R' w' hw hs hd => by have a0 : R' 5 = .int .i64 (y7.tmod (10 : Int)) := (hs 5 rfl).trans h5; exact of_move a0) <|
              Obls.cons (Obl.plain rfl rfl fun R' w' hw hs hd => by have a0 : R' 16 = .int .i64 (y7.tmod (10 : Int)) := hd 0 _ _ _ rfl rfl rfl rfl rfl; exact of_neg a0 e12) <|
              Obls.cons (Obl.plain rfl rfl fun R' w' hw hs hd => by have a0 : R' 17 = .int .i64 (0 - (y7.tmod (10 : Int))) := hd 0 _ _ _ rfl rfl rfl rfl rfl; exact of_assign a0) <|
              Obls.nil
          intro R w hw hs hF'
          replace h0 : R 0 = .int .i64 y7 := (hs 0 rfl).trans h0
          replace h3 : R 3 = wl_3 := (hs 3 rfl).trans h3
          replace h4 : R 4 = .bool (decide (p0 < (0 : Int))) := (hs 4 rfl).trans h4
          have h5 : R 5 = .int .i64 (0 - (y7.tmod (10 : Int))) := hF' 2 _ _ rfl rfl rfl
          replace f_wl_3 := f_wl_3.fr hw
          replace hA := hA.fr hw.size
          replace hF := hF.trans hw
          clear hs hF' hw
          refine seqR_nil ?_
          refine HT.seq ?_
          obtain ⟨e13, hr⟩ := ck_some hr
          obtain ⟨e14, hr⟩ := ck_some hr
          refine HT.text (l := ⟨_, true, .raw (.int .i64 (0 - (y7.tmod (10 : Int))))⟩ :: ⟨_, true, .raw (.int .i64 ((48 : Int) + (0 - (y7.tmod (10 : Int)))))⟩ :: ⟨_, true, .raw (.int .u8 (IntKind.u8.wrap ((48 : Int) + (0 - (y7.tmod (10 : Int))))))⟩ :: ⟨_, true, .rep (eSl (eInt .u8)) A ([(IntKind.u8.wrap ((48 : Int) + (0 - (y7.tmod (10 : Int)))))] : List Int)⟩ :: ⟨_, true, .rep eStr A (strB ([(IntKind.u8.wrap ((48 : Int) + (0 - (y7.tmod (10 : Int)))))] : List Int))⟩ :: ⟨_, true, .raw wl_3⟩ :: ⟨_, true, .rep eStr A ((strB ([(IntKind.u8.wrap ((48 : Int) + (0 - (y7.tmod (10 : Int)))))] : List Int)) ++ y8)⟩ :: ⟨_, true, .rep eStr A ((strB ([(IntKind.u8.wrap ((48 : Int) + (0 - (y7.tmod (10 : Int)))))] : List Int)) ++ y8)⟩ :: []) (tl := []) (by kernel_rfl) (by kernel_rfl) (by kernel_rfl) ?_ ?_
          · exact
              Obls.cons (Obl.plain rfl rfl fun R' w' hw hs hd => by have a0 : R' 5 = .int .i64 (0 - (y7.tmod (10 : Int))) := (hs 5 rfl).trans h5; exact of_move a0) <|
              Obls.cons (Obl.plain rfl rfl fun R' w' hw hs hd => by have a1 : R' 18 = .int .i64 (0 - (y7.tmod (10 : Int))) := hd 0 _ _ _ rfl rfl rfl rfl rfl; exact of_add rfl a1 e13) <|
              Obls.cons (Obl.plain rfl rfl fun R' w' hw hs hd => by have a0 : R' 19 = .int .i64 ((48 : Int) + (0 - (y7.tmod (10 : Int)))) := hd 0 _ _ _ rfl rfl rfl rfl rfl; exact of_conv_int a0 Tryd.underlying3 Tryd.underlying5) <|
              Obls.cons (Obl.plain rfl rfl fun R' w' hw hs hd => by have a0 : R' 20 = .int .u8 (IntKind.u8.wrap ((48 : Int) + (0 - (y7.tmod (10 : Int))))) := hd 0 _ _ _ rfl rfl rfl rfl rfl; exact of_build [_] (E := eInt .u8) ⟨(rep_int.eq a0), trivial⟩ Tryd.underlying58 Tryd.sizeOf5 Tryd.zeroValue5 rfl rfl rfl (hA.fr hw.size)) <|
              Obls.cons (Obl.plain rfl rfl fun R' w' hw hs hd => by have a0 : Rep (eSl (eInt .u8)) A w' (R' 21) ([(IntKind.u8.wrap ((48 : Int) + (0 - (y7.tmod (10 : Int)))))] : List Int) := hd 0 _ _ _ rfl rfl rfl rfl rfl; exact of_conv_bytes a0 Tryd.underlying58 Tryd.underlying5 Tryd.underlying9) <|
              Obls.cons (Obl.plain rfl rfl fun R' w' hw hs hd => by have a0 : R' 3 = wl_3 := (hs 3 rfl).trans h3; exact of_move a0) <|
              Obls.cons (Obl.plain rfl rfl fun R' w' hw hs hd => by have a0 : Rep eStr A w' (R' 22) (strB ([(IntKind.u8.wrap ((48 : Int) + (0 - (y7.tmod (10 : Int)))))] : List Int)) := hd 0 _ _ _ rfl rfl rfl rfl rfl; have a1 : R' 23 = wl_3 := hd 1 _ _ _ rfl rfl rfl rfl rfl; have ra1 := (f_wl_3.fr hw).eq a1; exact of_cat a0 ra1 e14) <|
              Obls.cons (Obl.plain rfl rfl fun R' w' hw hs hd => by have a0 : Rep eStr A w' (R' 24) ((strB ([(IntKind.u8.wrap ((48 : Int) + (0 - (y7.tmod (10 : Int)))))] : List Int)) ++ y8) := hd 0 _ _ _ rfl rfl rfl rfl rfl; exact of_assign a0) <|
              Obls.nil
          intro R w hw hs hF'
          replace h0 : R 0 = .int .i64 y7 := (hs 0 rfl).trans h0
          replace h4 : R 4 = .bool (decide (p0 < (0 : Int))) := (hs 4 rfl).trans h4
          obtain ⟨u15, h3, f_u15⟩ : ∃ u, R 3 = u ∧ Rep eStr A w u ((strB ([(IntKind.u8.wrap ((48 : Int) + (0 - (y7.tmod (10 : Int)))))] : List Int)) ++ y8) := ⟨_, rfl, hF' 7 _ _ rfl rfl rfl⟩
          replace hA := hA.fr hw.size
          replace hF := hF.trans hw
          clear hs hF' hw
          refine seqR_nil ?_
          obtain ⟨e16, hr⟩ := ck_some hr
          obtain ⟨e17, hr⟩ := ck_some hr
          refine HT.text (l := ⟨_, true, .raw (.int .i64 y7)⟩ :: ⟨_, true, .raw (.int .i64 (y7.tdiv (10 : Int)))⟩ :: ⟨_, true, .raw (.int .i64 (y7.tdiv (10 : Int)))⟩ :: []) (tl := []) (by kernel_rfl) (by kernel_rfl) (by kernel_rfl) ?_ ?_
          · exact
              Obls.cons (Obl.plain rfl rfl fun R' w' hw hs hd => by have a0 : R' 0 = .int .i64 y7 := (hs 0 rfl).trans h0; exact of_move a0) <|
              Obls.cons (Obl.plain rfl rfl fun R' w' hw hs hd => by have a0 : R' 25 = .int .i64 y7 := hd 0 _ _ _ rfl rfl rfl rfl rfl; exact of_quo a0 rfl e16 e17) <|
              Obls.cons (Obl.plain rfl rfl fun R' w' hw hs hd => by have a0 : R' 26 = .int .i64 (y7.tdiv (10 : Int)) := hd 0 _ _ _ rfl rfl rfl rfl rfl; exact of_assign a0) <|
              Obls.nil
          intro R w hw hs hF'
          replace h3 : R 3 = u15 := (hs 3 rfl).trans h3
          replace h4 : R 4 = .bool (decide (p0 < (0 : Int))) := (hs 4 rfl).trans h4
          have h0 : R 0 = .int .i64 (y7.tdiv (10 : Int)) := hF' 2 _ _ rfl rfl rfl
          replace f_u15 := f_u15.fr hw
          replace hA := hA.fr hw.size
          replace hF := hF.trans hw
          clear hs hF' hw
          refine seqR_nil ?_
          exact Exists.intro k (And.intro (Nat.lt_succ_self k) ⟨_, _, u15, hr, hA, hF, h0, h3, h4, f_u15⟩)
        · have hr := cnd_f c11 hr
          refine HT.skip ?_
          refine HT.seq ?_
          obtain ⟨e18, hr⟩ := ck_some hr
          obtain ⟨e19, hr⟩ := ck_some hr
          refine HT.text (l := ⟨_, true, .raw (.int .i64 (y7.tmod (10 : Int)))⟩ :: ⟨_, true, .raw (.int .i64 ((48 : Int) + (y7.tmod (10 : Int))))⟩ :: ⟨_, true, .raw (.int .u8 (IntKind.u8.wrap ((48 : Int) + (y7.tmod (10 : Int)))))⟩ :: ⟨_, true, .rep (eSl (eInt .u8)) A ([(IntKind.u8.wrap ((48 : Int) + (y7.tmod (10 : Int))))] : List Int)⟩ :: ⟨_, true, .rep eStr A (strB ([(IntKind.u8.wrap ((48 : Int) + (y7.tmod (10 : Int))))] : List Int))⟩ :: ⟨_, true, .raw wl_3⟩ :: ⟨_, true, .rep eStr A ((strB ([(IntKind.u8.wrap ((48 : Int) + (y7.tmod (10 : Int))))] : List Int)) ++ y8)⟩ :: ⟨_, true, .rep eStr A ((strB ([(IntKind.u8.wrap ((48 : Int) + (y7.tmod (10 : Int))))] : List Int)) ++ y8)⟩ :: []) (tl := []) (by kernel_rfl) (by kernel_rfl) (by kernel_rfl) ?_ ?_
          · exact
              Obls.cons (Obl.plain rfl rfl fun R' w' hw hs hd => by have a0 : R' 5 = .int .i64 (y7.tmod (10 : Int)) := (hs 5 rfl).trans h5; exact of_move a0) <|
              Obls.cons (Obl.plain rfl rfl fun R' w' hw hs hd => by have a1 : R' 18 = .int .i64 (y7.tmod (10 : Int)) := hd 0 _ _ _ rfl rfl rfl rfl rfl; exact of_add rfl a1 e18) <|
              Obls.cons (Obl.plain rfl rfl fun R' w' hw hs hd => by have a0 : R' 19 = .int .i64 ((48 : Int) + (y7.tmod (10 : Int))) := hd 0 _ _ _ rfl rfl rfl rfl rfl; exact of_conv_int a0 Tryd.underlying3 Tryd.underlying5) <|
              Obls.cons (Obl.plain rfl rfl fun R' w' hw hs hd => by have a0 : R' 20 = .int .u8 (IntKind.u8.wrap ((48 : Int) + (y7.tmod (10 : Int)))) := hd 0 _ _ _ rfl rfl rfl rfl rfl; exact of_build [_] (E := eInt .u8) ⟨(rep_int.eq a0), trivial⟩ Tryd.underlying58 Tryd.sizeOf5 Tryd.zeroValue5 rfl rfl rfl (hA.fr hw.size)) <|
              Obls.cons (Obl.plain rfl rfl fun R' w' hw hs hd => by have a0 : Rep (eSl (eInt .u8)) A w' (R' 21) ([(IntKind.u8.wrap ((48 : Int) + (y7.tmod (10 : Int))))] : List Int) := hd 0 _ _ _ rfl rfl rfl rfl rfl; exact of_conv_bytes a0 Tryd.underlying58 Tryd.underlying5 Tryd.underlying9) <|
              Obls.cons (Obl.plain rfl rfl fun R' w' hw hs hd => by have a0 : R' 3 = wl_3 := (hs 3 rfl).trans h3; exact of_move a0) <|
              Obls.cons (Obl.plain rfl rfl fun R' w' hw hs hd => by have a0 : Rep eStr A w' (R' 22) (strB ([(IntKind.u8.wrap ((48 : Int) + (y7.tmod (10 : Int))))] : List Int)) := hd 0 _ _ _ rfl rfl rfl rfl rfl; have a1 : R' 23 = wl_3 := hd 1 _ _ _ rfl rfl rfl rfl rfl; have ra1 := (f_wl_3.fr hw).eq a1; exact of_cat a0 ra1 e19) <|
              Obls.cons (Obl.plain rfl rfl fun R' w' hw hs hd => by have a0 : Rep eStr A w' (R' 24) ((strB ([(IntKind.u8.wrap ((48 : Int) + (y7.tmod (10 : Int))))] : List Int)) ++ y8) := hd 0 _ _ _ rfl rfl rfl rfl rfl; exact of_assign a0) <|
              Obls.nil
          intro R w hw hs hF'
          replace h0 : R 0 = .int .i64 y7 := (hs 0 rfl).trans h0
          replace h4 : R 4 = .bool (decide (p0 < (0 : Int))) := (hs 4 rfl).trans h4
          obtain ⟨u20, h3, f_u20⟩ : ∃ u, R 3 = u ∧ Rep eStr A w u ((strB ([(IntKind.u8.wrap ((48 : Int) + (y7.tmod (10 : Int))))] : List Int)) ++ y8) := ⟨_, rfl, hF' 7 _ _ rfl rfl rfl⟩
          replace hA := hA.fr hw.size
          replace hF := hF.trans hw
          clear hs hF' hw
          refine seqR_nil ?_
          obtain ⟨e21, hr⟩ := ck_some hr
          obtain ⟨e22, hr⟩ := ck_some hr
          refine HT.text (l := ⟨_, true, .raw (.int .i64 y7)⟩ :: ⟨_, true, .raw (.int .i64 (y7.tdiv (10 : Int)))⟩ :: ⟨_, true, .raw (.int .i64 (y7.tdiv (10 : Int)))⟩ :: []) (tl := []) (by kernel_rfl) (by kernel_rfl) (by kernel_rfl) ?_ ?_
          · exact
              Obls.cons (Obl.plain rfl rfl fun R' w' hw hs hd => by have a0 : R' 0 = .int .i64 y7 := (hs 0 rfl).trans h0; exact of_move a0) <|
              Obls.cons (Obl.plain rfl rfl fun R' w' hw hs hd => by have a0 : R' 25 = .int .i64 y7 := hd 0 _ _ _ rfl rfl rfl rfl rfl; exact of_quo a0 rfl e21 e22) <|
              Obls.cons (Obl.plain rfl rfl fun R' w' hw hs hd => by have a0 : R' 26 = .int .i64 (y7.tdiv (10 : Int)) := hd 0 _ _ _ rfl rfl rfl rfl rfl; exact of_assign a0) <|
              Obls.nil
          intro R w hw hs hF'
          replace h3 : R 3 = u20 := (hs 3 rfl).trans h3
          replace h4 : R 4 = .bool (decide (p0 < (0 : Int))) := (hs 4 rfl).trans h4
          have h0 : R 0 = .int .i64 (y7.tdiv (10 : Int)) := hF' 2 _ _ rfl rfl rfl
          replace f_u20 := f_u20.fr hw
          replace hA := hA.fr hw.size
          replace hF := hF.trans hw
          clear hs hF' hw
          refine seqR_nil ?_
          exact Exists.intro k (And.intro (Nat.lt_succ_self k) ⟨_, _, u20, hr, hA, hF, h0, h3, h4, f_u20⟩)
      · have hr := cnd_f c9 hr
        refine HT.exit ?_
        obtain rfl := Option.some.inj hr
        exact Exists.intro _ ⟨wl_3, rfl, hA, hF, h3, h4, f_wl_3⟩
    rintro R w ⟨s6, wo_3, es, hA, hF, h3, h4, f_wo_3⟩
    obtain rfl := es.symm
    refine HT.seq ?_
    refine HT.seq ?_
    refine HT.text (l := ⟨_, true, .raw (.bool (decide (p0 < (0 : Int))))⟩ :: []) (tl := []) (by kernel_rfl) (by kernel_rfl) (by kernel_rfl) ?_ ?_
    · exact
        Obls.cons (Obl.plain rfl rfl fun R' w' hw hs hd => by have a0 : R' 4 = .bool (decide (p0 < (0 : Int))) := (hs 4 rfl).trans h4; exact of_move a0) <|
        Obls.nil
    intro R w hw hs hF'
    replace h3 : R 3 = wo_3 := (hs 3 rfl).trans h3
    have h27 : R 27 = .bool (decide (p0 < (0 : Int))) := hF' 0 _ _ rfl rfl rfl
    replace f_wo_3 := f_wo_3.fr hw
    replace hA := hA.fr hw.size
    replace hF := hF.trans hw
    clear hs hF' hw
    refine seqR_nil ?_
    refine HT.cond (decide (p0 < (0 : Int))) h27 (fun c23 => ?_) (fun c23 => ?_)
    · have hr := cnd_t c23 hr
      refine HT.seq ?_
      obtain ⟨e24, hr⟩ := ck_some hr
      refine HT.text (l := ⟨_, true, .raw wo_3⟩ :: ⟨_, true, .rep eStr A (([45] : List UInt8) ++ s6)⟩ :: ⟨_, true, .rep eStr A (([45] : List UInt8) ++ s6)⟩ :: []) (tl := []) (by kernel_rfl) (by kernel_rfl) (by kernel_rfl) ?_ ?_
      · exact
          Obls.cons (Obl.plain rfl rfl fun R' w' hw hs hd => by have a0 : R' 3 = wo_3 := (hs 3 rfl).trans h3; exact of_move a0) <|
          Obls.cons (Obl.plain rfl rfl fun R' w' hw hs hd => by have a1 : R' 28 = wo_3 := hd 0 _ _ _ rfl rfl rfl rfl rfl; have ra1 := (f_wo_3.fr hw).eq a1; exact of_cat ⟨_, rfl, ⟨_, rfl, rfl, by decide⟩⟩ ra1 e24) <|
          Obls.cons (Obl.plain rfl rfl fun R' w' hw hs hd => by have a0 : Rep eStr A w' (R' 29) (([45] : List UInt8) ++ s6) := hd 0 _ _ _ rfl rfl rfl rfl rfl; exact of_assign a0) <|
          Obls.nil
      intro R w hw hs hF'
      obtain ⟨u25, h2, f_u25⟩ : ∃ u, R 2 = u ∧ Rep eStr A w u (([45] : List UInt8) ++ s6) := ⟨_, rfl, hF' 2 _ _ rfl rfl rfl⟩
      replace hA := hA.fr hw.size
      replace hF := hF.trans hw
      clear hs hF' hw
      refine seqR_nil ?_
      refine HT.ret ?_
      obtain rfl := Option.some.inj hr
      exact ⟨.inr rfl, [R 2], ⟨rfl, trivial⟩, (f_u25.eq h2), hF⟩
    · have hr := cnd_f c23 hr
      refine HT.skip ?_
      refine HT.seq ?_
      refine HT.text (l := ⟨_, true, .raw wo_3⟩ :: ⟨_, true, .raw wo_3⟩ :: []) (tl := []) (by kernel_rfl) (by kernel_rfl) (by kernel_rfl) ?_ ?_
      · exact
          Obls.cons (Obl.plain rfl rfl fun R' w' hw hs hd => by have a0 : R' 3 = wo_3 := (hs 3 rfl).trans h3; exact of_move a0) <|
          Obls.cons (Obl.plain rfl rfl fun R' w' hw hs hd => by have a0 : R' 30 = wo_3 := hd 0 _ _ _ rfl rfl rfl rfl rfl; exact of_assign a0) <|
          Obls.nil
      intro R w hw hs hF'
      have h2 : R 2 = wo_3 := hF' 1 _ _ rfl rfl rfl
      replace f_wo_3 := f_wo_3.fr hw
      replace hA := hA.fr hw.size
      replace hF := hF.trans hw
      clear hs hF' hw
      refine seqR_nil ?_
      refine HT.ret ?_
      obtain rfl := Option.some.inj hr
      exact ⟨.inr rfl, [R 2], ⟨rfl, trivial⟩, (f_wo_3.eq h2), hF⟩
def M_spec_ParseInt_L0 (fu : Nat) (p0 : List UInt8) : Nat → Int → Int → Int → Option (Int × Int)
  | 0, _, _, _ => none
  | k + 1, y4, y5, y6 =>
    bd ((decide (y6 < (p0.length : Int))) && (decide (y6 < (11 : Int)))) fun x7 =>
    bif x7 then (
      ck (inR y6 p0.length) <|
      ck (!(true && ((decide ((48 : Int) ≤ (bAt p0 y6))) == true)) || inR y6 p0.length) <|
      bd ((decide ((48 : Int) ≤ (bAt p0 y6))) && (decide ((bAt p0 y6) ≤ (57 : Int)))) fun x12 =>
      bif x12 then (
        ck (i64B (y4 * (10 : Int))) <|
        ck (inR y6 p0.length) <|
        ck (i64B ((y4 * (10 : Int)) + (IntKind.i64.wrap (IntKind.u8.wrap ((bAt p0 y6) - (48 : Int)))))) <|
        ck (i64B (y5 + (1 : Int))) <|
        ck (i64B (y6 + (1 : Int))) <|
        M_spec_ParseInt_L0 fu p0 k ((y4 * (10 : Int)) + (IntKind.i64.wrap (IntKind.u8.wrap ((bAt p0 y6) - (48 : Int))))) (y5 + (1 : Int)) (y6 + (1 : Int))
      ) else (
        ck (i64B (y6 + (1 : Int))) <|
        M_spec_ParseInt_L0 fu p0 k y4 y5 (y6 + (1 : Int))
      )
    ) else (
      some (y4, y5)
    )
def M_spec_ParseInt (fu : Nat) (p0 : List UInt8) : Option (Int × Bool) :=
  cl true (M_spec_ParseInt_L0 fu p0 fu (0 : Int) (0 : Int) (0 : Int)) fun s3 =>
  ck (!(true && ((decide ((0 : Int) < (p0.length : Int))) == true)) || inR (0 : Int) p0.length) <|
  bd ((decide ((0 : Int) < (p0.length : Int))) && ((bAt p0 (0 : Int)) == (45 : Int))) fun x22 =>
  bif x22 then (
    ck (i64B (0 - s3.1)) <|
    bd ((decide ((9 : Int) < s3.2)) || (decide ((10 : Int) < (p0.length : Int)))) fun x26 =>
    cl (true && (x26 == false)) (M_spec_FormatInt fu (0 - s3.1)) fun x28 =>
    bd (x26 || (!(x28 == p0))) fun x30 =>
    bif x30 then (
      some ((0 : Int), false)
    ) else (
      some ((0 - s3.1), true)
    )
  ) else (
    bd ((decide ((9 : Int) < s3.2)) || (decide ((10 : Int) < (p0.length : Int)))) fun x33 =>
    cl (true && (x33 == false)) (M_spec_FormatInt fu s3.1) fun x35 =>
    bd (x33 || (!(x35 == p0))) fun x37 =>
    bif x37 then (
      some ((0 : Int), false)
    ) else (
      some (s3.1, true)
    )
  )
set_option maxRecDepth 100000 in
set_option maxHeartbeats 4000000 in
theorem M_spec_ParseInt_ok {fu : Nat} {A : Av} {p0 : List UInt8} {r : Int × Bool} (hr : M_spec_ParseInt fu p0 = some r) {w : World} {v0 : Value} (hA : AvOK A w) (h0 : Rep eStr A w v0 p0) :
    Calls Tryd.prog 19 #[v0] w fun e w' => ∃ v, e = .returned v ∧ ((∃ a b, v = .tuple #[a, b] ∧ a = .int .i64 r.1 ∧ b = .bool r.2) ∧ Fr w w') := by
  unfold M_spec_ParseInt at hr
  obtain ⟨w0, hw0⟩ : ∃ w0, w0 = w := ⟨_, rfl⟩
  have hF : Fr w0 w := hw0 ▸ Fr.refl _
  rw [show Fr w = Fr w0 from hw0 ▸ rfl]
  clear hw0
  refine calls_of_HT2 [.tmp 2, .tmp 3] Tryd.func19 Tryd.ntmps19 (by decide) rfl rfl (Nat.le_of_ble_eq_true rfl) ?_
  intro R hR
  have f_v0 := h0
  replace h0 : R 0 = v0 := hR 0 _ rfl
  clear hR
  refine HT.seq ?_
  refine HT.text (l := ⟨_, true, .raw (.int .i64 (0 : Int))⟩ :: ⟨_, true, .raw (.bool false)⟩ :: []) (tl := []) (by kernel_rfl) (by kernel_rfl) (by kernel_rfl) ?_ ?_
  · exact
      Obls.cons (Obl.plain rfl rfl fun R' w' hw hs hd => by exact of_assign rfl) <|
      Obls.cons (Obl.plain rfl rfl fun R' w' hw hs hd => by exact of_assign rfl) <|
      Obls.nil
  intro R w hw hs hF'
  replace h0 : R 0 = v0 := (hs 0 rfl).trans h0
  replace f_v0 := f_v0.fr hw
  replace hA := hA.fr hw.size
  replace hF := hF.trans hw
  clear hs hF' hw
  refine seqR_nil ?_
  refine HT.seq ?_
  refine HT.text (l := ⟨_, true, .raw (.int .i64 (0 : Int))⟩ :: []) (tl := []) (by kernel_rfl) (by kernel_rfl) (by kernel_rfl) ?_ ?_
  · exact
      Obls.cons (Obl.plain rfl rfl fun R' w' hw hs hd => by exact of_assign rfl) <|
      Obls.nil
  intro R w hw hs hF'
  replace h0 : R 0 = v0 := (hs 0 rfl).trans h0
  have h4 : R 4 = .int .i64 (0 : Int) := hF' 0 _ _ rfl rfl rfl
  replace f_v0 := f_v0.fr hw
  replace hA := hA.fr hw.size
  replace hF := hF.trans hw
  clear hs hF' hw
  refine seqR_nil ?_
  refine HT.seq ?_
  refine HT.text (l := ⟨_, true, .raw (.int .i64 (0 : Int))⟩ :: []) (tl := []) (by kernel_rfl) (by kernel_rfl) (by kernel_rfl) ?_ ?_
  · exact
      Obls.cons (Obl.plain rfl rfl fun R' w' hw hs hd => by exact of_assign rfl) <|
      Obls.nil
  intro R w hw hs hF'
  replace h0 : R 0 = v0 := (hs 0 rfl).trans h0
  replace h4 : R 4 = .int .i64 (0 : Int) := (hs 4 rfl).trans h4
  have h5 : R 5 = .int .i64 (0 : Int) := hF' 0 _ _ rfl rfl rfl
  replace f_v0 := f_v0.fr hw
  replace hA := hA.fr hw.size
  replace hF := hF.trans hw
  clear hs hF' hw
  refine seqR_nil ?_
  refine HT.seq ?_
  refine HT.seq ?_
  refine HT.text (l := ⟨_, true, .raw (.int .i64 (0 : Int))⟩ :: []) (tl := []) (by kernel_rfl) (by kernel_rfl) (by kernel_rfl) ?_ ?_
  · exact
      Obls.cons (Obl.plain rfl rfl fun R' w' hw hs hd => by exact of_assign rfl) <|
      Obls.nil
  intro R w hw hs hF'
  replace h0 : R 0 = v0 := (hs 0 rfl).trans h0
  replace h4 : R 4 = .int .i64 (0 : Int) := (hs 4 rfl).trans h4
  replace h5 : R 5 = .int .i64 (0 : Int) := (hs 5 rfl).trans h5
  have h6 : R 6 = .int .i64 (0 : Int) := hF' 0 _ _ rfl rfl rfl
  replace f_v0 := f_v0.fr hw
  replace hA := hA.fr hw.size
  replace hF := hF.trans hw
  clear hs hF' hw
  refine seqR_nil ?_
  obtain ⟨rl1, q2, hr⟩ := cl_some hr
  replace q2 := q2 rfl
  refine HT.cut0 (fun R w => ∃ (s3 : Int × Int), rl1 = s3 ∧ AvOK A w ∧ Fr w0 w ∧ R 0 = v0 ∧ R 4 = .int .i64 s3.1 ∧ R 5 = .int .i64 s3.2 ∧ Rep eStr A w v0 p0) ?_ ?_
  · refine HT.block ?_
    refine HT.loop (fun k R w => ∃ (y4 : Int) (y5 : Int) (y6 : Int), M_spec_ParseInt_L0 fu p0 k y4 y5 y6 = some rl1 ∧ AvOK A w ∧ Fr w0 w ∧ R 0 = v0 ∧ R 4 = .int .i64 y4 ∧ R 5 = .int .i64 y5 ∧ R 6 = .int .i64 y6 ∧ Rep eStr A w v0 p0) fu ⟨_, _, _, q2, hA, hF, h0, h4, h5, h6, f_v0⟩ ?_
    have hr0 := hr; clear hr q2
    rintro k R w ⟨y4, y5, y6, hr, hA, hF, h0, h4, h5, h6, f_v0⟩
    rcases k with _ | k
    · cases (show none = some _ from hr)
    rw [M_spec_ParseInt_L0] at hr
    refine HT.seq ?_
    refine HT.seq ?_
    obtain ⟨x7, q8, hr⟩ := bd_some hr
    refine HT.text (l := ⟨_, true, .raw (.int .i64 y6)⟩ :: ⟨_, true, .raw v0⟩ :: ⟨_, true, .raw (.int .i64 (p0.length : Int))⟩ :: ⟨_, true, .raw (.bool (decide (y6 < (p0.length : Int))))⟩ :: ⟨_, true, .raw (.bool (decide (y6 < (p0.length : Int))))⟩ :: ⟨_, (true && ((decide (y6 < (p0.length : Int))) == true)), .raw (.int .i64 y6)⟩ :: ⟨_, (true && ((decide (y6 < (p0.length : Int))) == true)), .raw (.bool (decide (y6 < (11 : Int))))⟩ :: ⟨_, true, .raw (.bool x7)⟩ :: []) (tl := []) (by kernel_rfl) (by kernel_rfl) (by kernel_rfl) ?_ ?_
    · exact
        Obls.cons (Obl.plain rfl rfl fun R' w' hw hs hd => by have a0 : R' 6 = .int .i64 y6 := (hs 6 rfl).trans h6; exact of_move a0) <|
        Obls.cons (Obl.plain rfl rfl fun R' w' hw hs hd => by have a0 : R' 0 = v0 := (hs 0 rfl).trans h0; exact of_move a0) <|
        Obls.cons (Obl.plain rfl rfl fun R' w' hw hs hd => by have a0 : R' 8 = v0 := hd 0 _ _ _ rfl rfl rfl rfl rfl; have ra0 := (f_v0.fr hw).eq a0; exact of_len_str ra0 Tryd.underlying9) <|
        Obls.cons (Obl.plain rfl rfl fun R' w' hw hs hd => by have a0 : R' 7 = .int .i64 y6 := hd 0 _ _ _ rfl rfl rfl rfl rfl; have a1 : R' 9 = .int .i64 (p0.length : Int) := hd 1 _ _ _ rfl rfl rfl rfl rfl; exact of_lss a0 a1) <|
        Obls.cons (Obl.plain rfl rfl fun R' w' hw hs hd => by have a0 : R' 10 = .bool (decide (y6 < (p0.length : Int))) := hd 0 _ _ _ rfl rfl rfl rfl rfl; exact of_move a0) <|
        Obls.cons (Obl.grd 4 true _ _ _ rfl rfl rfl rfl rfl (by kernel_rfl) fun hg R' w' hw hs hd => by have a0 : R' 6 = .int .i64 y6 := (hs 6 rfl).trans h6; exact of_move a0) <|
        Obls.cons (Obl.grd 4 true _ _ _ rfl rfl rfl rfl rfl (by kernel_rfl) fun hg R' w' hw hs hd => by have a0 : R' 12 = .int .i64 y6 := hd 0 _ _ _ rfl rfl rfl rfl hg; exact of_lss a0 rfl) <|
        Obls.cons (Obl.plain rfl rfl fun R' w' hw hs hd => by have a0 : R' 11 = .bool (decide (y6 < (p0.length : Int))) := hd 0 _ _ _ rfl rfl rfl rfl rfl; exact of_pick (decide (y6 < (p0.length : Int))) a0 (fun hc => by have a1 : R' 13 = .bool (decide (y6 < (11 : Int))) := hd 1 _ _ _ rfl rfl rfl rfl (g_and rfl (beq_of hc)); show _ = Value.bool x7; rw [q8, hc]; exact a1) (fun hc => by show _ = Value.bool x7; rw [q8, hc]; exact rfl)) <|
        Obls.nil
    intro R w hw hs hF'
    replace h0 : R 0 = v0 := (hs 0 rfl).trans h0
    replace h4 : R 4 = .int .i64 y4 := (hs 4 rfl).trans h4
    replace h5 : R 5 = .int .i64 y5 := (hs 5 rfl).trans h5
    replace h6 : R 6 = .int .i64 y6 := (hs 6 rfl).trans h6
    have h14 : R 14 = .bool x7 := hF' 7 _ _ rfl rfl rfl
    replace f_v0 := f_v0.fr hw
    replace hA := hA.fr hw.size
    replace hF := hF.trans hw
    clear hs hF' hw
    refine seqR_nil ?_
    refine HT.cond x7 h14 (fun c9 => ?_) (fun c9 => ?_)
    · have hr := cnd_t c9 hr
      refine HT.skip ?_
      refine HT.seq ?_
      refine HT.block ?_
      refine HT.seq ?_
      obtain ⟨e10, hr⟩ := ck_some hr
      obtain ⟨e11, hr⟩ := ck_some hr
      obtain ⟨x12, q13, hr⟩ := bd_some hr
      refine HT.text (l := ⟨_, true, .raw v0⟩ :: ⟨_, true, .raw (.int .i64 y6)⟩ :: ⟨_, true, .raw (.int .u8 (bAt p0 y6))⟩ :: ⟨_, true, .raw (.bool (decide ((48 : Int) ≤ (bAt p0 y6))))⟩ :: ⟨_, true, .raw (.bool (decide ((48 : Int) ≤ (bAt p0 y6))))⟩ :: ⟨_, (true && ((decide ((48 : Int) ≤ (bAt p0 y6))) == true)), .raw v0⟩ :: ⟨_, (true && ((decide ((48 : Int) ≤ (bAt p0 y6))) == true)), .raw (.int .i64 y6)⟩ :: ⟨_, (true && ((decide ((48 : Int) ≤ (bAt p0 y6))) == true)), .raw (.int .u8 (bAt p0 y6))⟩ :: ⟨_, (true && ((decide ((48 : Int) ≤ (bAt p0 y6))) == true)), .raw (.bool (decide ((bAt p0 y6) ≤ (57 : Int))))⟩ :: ⟨_, true, .raw (.bool x12)⟩ :: []) (tl := []) (by kernel_rfl) (by kernel_rfl) (by kernel_rfl) ?_ ?_
      · exact
          Obls.cons (Obl.plain rfl rfl fun R' w' hw hs hd => by have a0 : R' 0 = v0 := (hs 0 rfl).trans h0; exact of_move a0) <|
          Obls.cons (Obl.plain rfl rfl fun R' w' hw hs hd => by have a0 : R' 6 = .int .i64 y6 := (hs 6 rfl).trans h6; exact of_move a0) <|
          Obls.cons (Obl.plain rfl rfl fun R' w' hw hs hd => by have a0 : R' 17 = v0 := hd 0 _ _ _ rfl rfl rfl rfl rfl; have ra0 := (f_v0.fr hw).eq a0; have a1 : R' 18 = .int .i64 y6 := hd 1 _ _ _ rfl rfl rfl rfl rfl; exact of_strIndex ra0 a1 Tryd.underlying9 e10) <|
          Obls.cons (Obl.plain rfl rfl fun R' w' hw hs hd => by have a0 : R' 19 = .int .u8 (bAt p0 y6) := hd 0 _ _ _ rfl rfl rfl rfl rfl; exact of_geq a0 rfl) <|
          Obls.cons (Obl.plain rfl rfl fun R' w' hw hs hd => by have a0 : R' 20 = .bool (decide ((48 : Int) ≤ (bAt p0 y6))) := hd 0 _ _ _ rfl rfl rfl rfl rfl; exact of_move a0) <|
          Obls.cons (Obl.grd 4 true _ _ _ rfl rfl rfl rfl rfl (by kernel_rfl) fun hg R' w' hw hs hd => by have a0 : R' 0 = v0 := (hs 0 rfl).trans h0; exact of_move a0) <|
          Obls.cons (Obl.grd 4 true _ _ _ rfl rfl rfl rfl rfl (by kernel_rfl) fun hg R' w' hw hs hd => by have a0 : R' 6 = .int .i64 y6 := (hs 6 rfl).trans h6; exact of_move a0) <|
          Obls.cons (Obl.grd 4 true _ _ _ rfl rfl rfl rfl rfl (by kernel_rfl) fun hg R' w' hw hs hd => by have a0 : R' 22 = v0 := hd 0 _ _ _ rfl rfl rfl rfl hg; have ra0 := (f_v0.fr hw).eq a0; have a1 : R' 23 = .int .i64 y6 := hd 1 _ _ _ rfl rfl rfl rfl hg; exact of_strIndex ra0 a1 Tryd.underlying9 (gd e11 hg)) <|
          Obls.cons (Obl.grd 4 true _ _ _ rfl rfl rfl rfl rfl (by kernel_rfl) fun hg R' w' hw hs hd => by have a0 : R' 24 = .int .u8 (bAt p0 y6) := hd 0 _ _ _ rfl rfl rfl rfl hg; exact of_leq a0 rfl) <|
          Obls.cons (Obl.plain rfl rfl fun R' w' hw hs hd => by have a0 : R' 21 = .bool (decide ((48 : Int) ≤ (bAt p0 y6))) := hd 0 _ _ _ rfl rfl rfl rfl rfl; exact of_pick (decide ((48 : Int) ≤ (bAt p0 y6))) a0 (fun hc => by have a1 : R' 25 = .bool (decide ((bAt p0 y6) ≤ (57 : Int))) := hd 1 _ _ _ rfl rfl rfl rfl (g_and rfl (beq_of hc)); show _ = Value.bool x12; rw [q13, hc]; exact a1) (fun hc => by show _ = Value.bool x12; rw [q13, hc]; exact rfl)) <|
          Obls.nil
      intro R w hw hs hF'
      replace h0 : R 0 = v0 := (hs 0 rfl).trans h0
      replace h4 : R 4 = .int .i64 y4 := (hs 4 rfl).trans h4
      replace h5 : R 5 = .int .i64 y5 := (hs 5 rfl).trans h5
      replace h6 : R 6 = .int .i64 y6 := (hs 6 rfl).trans h6
      have h26 : R 26 = .bool x12 := hF' 9 _ _ rfl rfl rfl
      replace f_v0 := f_v0.fr hw
      replace hA := hA.fr hw.size
      replace hF := hF.trans hw
      clear hs hF' hw
      refine seqR_nil ?_
      refine HT.cond x12 h26 (fun c14 => ?_) (fun c14 => ?_)
      · have hr := cnd_t c14 hr
        refine HT.seq ?_
        obtain ⟨e15, hr⟩ := ck_some hr
        obtain ⟨e16, hr⟩ := ck_some hr
        obtain ⟨e17, hr⟩ := ck_some hr
        refine HT.text (l := ⟨_, true, .raw (.int .i64 y4)⟩ :: ⟨_, true, .raw (.int .i64 (y4 * (10 : Int)))⟩ :: ⟨_, true, .raw v0⟩ :: ⟨_, true, .raw (.int .i64 y6)⟩ :: ⟨_, true, .raw (.int .u8 (bAt p0 y6))⟩ :: ⟨_, true, .raw (.int .u8 (IntKind.u8.wrap ((bAt p0 y6) - (48 : Int))))⟩ :: ⟨_, true, .raw (.int .i64 (IntKind.i64.wrap (IntKind.u8.wrap ((bAt p0 y6) - (48 : Int)))))⟩ :: ⟨_, true, .raw (.int .i64 ((y4 * (10 : Int)) + (IntKind.i64.wrap (IntKind.u8.wrap ((bAt p0 y6) - (48 : Int))))))⟩ :: ⟨_, true, .raw (.int .i64 ((y4 * (10 : Int)) + (IntKind.i64.wrap (IntKind.u8.wrap ((bAt p0 y6) - (48 : Int))))))⟩ :: []) (tl := []) (by kernel_rfl) (by kernel_rfl) (by kernel_rfl) ?_ ?_
        · exact
            Obls.cons (Obl.plain rfl rfl fun R' w' hw hs hd => by have a0 : R' 4 = .int .i64 y4 := (hs 4 rfl).trans h4; exact of_move a0) <|
            Obls.cons (Obl.plain rfl rfl fun R' w' hw hs hd => by have a0 : R' 27 = .int .i64 y4 := hd 0 _ _ _ rfl rfl rfl rfl rfl; exact of_mul a0 rfl e15) <|
            Obls.cons (Obl.plain rfl rfl fun R' w' hw hs hd => by have a0 : R' 0 = v0 := (hs 0 rfl).trans h0; exact of_move a0) <|
            Obls.cons (Obl.plain rfl rfl fun R' w' hw hs hd => by have a0 : R' 6 = .int .i64 y6 := (hs 6 rfl).trans h6; exact of_move a0) <|
            Obls.cons (Obl.plain rfl rfl fun R' w' hw hs hd => by have a0 : R' 29 = v0 := hd 0 _ _ _ rfl rfl rfl rfl rfl; have ra0 := (f_v0.fr hw).eq a0; have a1 : R' 30 = .int .i64 y6 := hd 1 _ _ _ rfl rfl rfl rfl rfl; exact of_strIndex ra0 a1 Tryd.underlying9 e16) <|
            Obls.cons (Obl.plain rfl rfl fun R' w' hw hs hd => by have a0 : R' 31 = .int .u8 (bAt p0 y6) := hd 0 _ _ _ rfl rfl rfl rfl rfl; exact of_sub_w a0 rfl) <|
            Obls.cons (Obl.plain rfl rfl fun R' w' hw hs hd => by have a0 : R' 32 = .int .u8 (IntKind.u8.wrap ((bAt p0 y6) - (48 : Int))) := hd 0 _ _ _ rfl rfl rfl rfl rfl; exact of_conv_int a0 Tryd.underlying5 Tryd.underlying3) <|
            Obls.cons (Obl.plain rfl rfl fun R' w' hw hs hd => by have a0 : R' 28 = .int .i64 (y4 * (10 : Int)) := hd 0 _ _ _ rfl rfl rfl rfl rfl; have a1 : R' 33 = .int .i64 (IntKind.i64.wrap (IntKind.u8.wrap ((bAt p0 y6) - (48 : Int)))) := hd 1 _ _ _ rfl rfl rfl rfl rfl; exact of_add a0 a1 e17) <|
            Obls.cons (Obl.plain rfl rfl fun R' w' hw hs hd => by have a0 : R' 34 = .int .i64 ((y4 * (10 : Int)) + (IntKind.i64.wrap (IntKind.u8.wrap ((bAt p0 y6) - (48 : Int))))) := hd 0 _ _ _ rfl rfl rfl rfl rfl; exact of_assign a0) <|
            Obls.nil
        intro R w hw hs hF'
        replace h0 : R 0 = v0 := (hs 0 rfl).trans h0
        replace h5 : R 5 = .int .i64 y5 := (hs 5 rfl).trans h5
        replace h6 : R 6 = .int .i64 y6 := (hs 6 rfl).trans h6
        have h4 : R 4 = .int .i64 ((y4 * (10 : Int)) + (IntKind.i64.wrap (IntKind.u8.wrap ((bAt p0 y6) - (48 : Int))))) := hF' 8 _ _ rfl rfl rfl
        replace f_v0 := f_v0.fr hw
        replace hA := hA.fr hw.size
        replace hF := hF.trans hw
        clear hs hF' hw
        refine seqR_nil ?_
        obtain ⟨e18, hr⟩ := ck_some hr
        refine HT.text (l := ⟨_, true, .raw (.int .i64 y5)⟩ :: ⟨_, true, .raw (.int .i64 (y5 + (1 : Int)))⟩ :: ⟨_, true, .raw (.int .i64 (y5 + (1 : Int)))⟩ :: []) (tl := []) (by kernel_rfl) (by kernel_rfl) (by kernel_rfl) ?_ ?_
        · exact
            Obls.cons (Obl.plain rfl rfl fun R' w' hw hs hd => by have a0 : R' 5 = .int .i64 y5 := (hs 5 rfl).trans h5; exact of_move a0) <|
            Obls.cons (Obl.plain rfl rfl fun R' w' hw hs hd => by have a0 : R' 35 = .int .i64 y5 := hd 0 _ _ _ rfl rfl rfl rfl rfl; exact of_add a0 rfl e18) <|
            Obls.cons (Obl.plain rfl rfl fun R' w' hw hs hd => by have a0 : R' 36 = .int .i64 (y5 + (1 : Int)) := hd 0 _ _ _ rfl rfl rfl rfl rfl; exact of_assign a0) <|
            Obls.nil
        intro R w hw hs hF'
        replace h0 : R 0 = v0 := (hs 0 rfl).trans h0
        replace h4 : R 4 = .int .i64 ((y4 * (10 : Int)) + (IntKind.i64.wrap (IntKind.u8.wrap ((bAt p0 y6) - (48 : Int))))) := (hs 4 rfl).trans h4
        replace h6 : R 6 = .int .i64 y6 := (hs 6 rfl).trans h6
        have h5 : R 5 = .int .i64 (y5 + (1 : Int)) := hF' 2 _ _ rfl rfl rfl
        replace f_v0 := f_v0.fr hw
        replace hA := hA.fr hw.size
        replace hF := hF.trans hw
        clear hs hF' hw
        refine seqR_nil ?_
        obtain ⟨e19, hr⟩ := ck_some hr
        refine HT.text (l := ⟨_, true, .raw (.int .i64 y6)⟩ :: ⟨_, true, .raw (.int .i64 (y6 + (1 : Int)))⟩ :: ⟨_, true, .raw (.int .i64 (y6 + (1 : Int)))⟩ :: []) (tl := []) (by kernel_rfl) (by kernel_rfl) (by kernel_rfl) ?_ ?_
        · exact
            Obls.cons (Obl.plain rfl rfl fun R' w' hw hs hd => by have a0 : R' 6 = .int .i64 y6 := (hs 6 rfl).trans h6; exact of_move a0) <|
            Obls.cons (Obl.plain rfl rfl fun R' w' hw hs hd => by have a0 : R' 15 = .int .i64 y6 := hd 0 _ _ _ rfl rfl rfl rfl rfl; exact of_add a0 rfl e19) <|
            Obls.cons (Obl.plain rfl rfl fun R' w' hw hs hd => by have a0 : R' 16 = .int .i64 (y6 + (1 : Int)) := hd 0 _ _ _ rfl rfl rfl rfl rfl; exact of_assign a0) <|
            Obls.nil
        intro R w hw hs hF'
        replace h0 : R 0 = v0 := (hs 0 rfl).trans h0
        replace h4 : R 4 = .int .i64 ((y4 * (10 : Int)) + (IntKind.i64.wrap (IntKind.u8.wrap ((bAt p0 y6) - (48 : Int))))) := (hs 4 rfl).trans h4
        replace h5 : R 5 = .int .i64 (y5 + (1 : Int)) := (hs 5 rfl).trans h5
        have h6 : R 6 = .int .i64 (y6 + (1 : Int)) := hF' 2 _ _ rfl rfl rfl
        replace f_v0 := f_v0.fr hw
        replace hA := hA.fr hw.size
        replace hF := hF.trans hw
        clear hs hF' hw
        refine seqR_nil ?_
        exact Exists.intro k (And.intro (Nat.lt_succ_self k) ⟨_, _, _, hr, hA, hF, h0, h4, h5, h6, f_v0⟩)
      · have hr := cnd_f c14 hr
        refine HT.skip ?_
        obtain ⟨e20, hr⟩ := ck_some hr
        refine HT.text (l := ⟨_, true, .raw (.int .i64 y6)⟩ :: ⟨_, true, .raw (.int .i64 (y6 + (1 : Int)))⟩ :: ⟨_, true, .raw (.int .i64 (y6 + (1 : Int)))⟩ :: []) (tl := []) (by kernel_rfl) (by kernel_rfl) (by kernel_rfl) ?_ ?_
        · exact
            Obls.cons (Obl.plain rfl rfl fun R' w' hw hs hd => by have a0 : R' 6 = .int .i64 y6 := (hs 6 rfl).trans h6; exact of_move a0) <|
            Obls.cons (Obl.plain rfl rfl fun R' w' hw hs hd => by have a0 : R' 15 = .int .i64 y6 := hd 0 _ _ _ rfl rfl rfl rfl rfl; exact of_add a0 rfl e20) <|
            Obls.cons (Obl.plain rfl rfl fun R' w' hw hs hd => by have a0 : R' 16 = .int .i64 (y6 + (1 : Int)) := hd 0 _ _ _ rfl rfl rfl rfl rfl; exact of_assign a0) <|
            Obls.nil
        intro R w hw hs hF'
        replace h0 : R 0 = v0 := (hs 0 rfl).trans h0
        replace h4 : R 4 = .int .i64 y4 := (hs 4 rfl).trans h4
        replace h5 : R 5 = .int .i64 y5 := (hs 5 rfl).trans h5
        have h6 : R 6 = .int .i64 (y6 + (1 : Int)) := hF' 2 _ _ rfl rfl rfl
        replace f_v0 := f_v0.fr hw
        replace hA := hA.fr hw.size
        replace hF := hF.trans hw
        clear hs hF' hw
        refine seqR_nil ?_
        exact Exists.intro k (And.intro (Nat.lt_succ_self k) ⟨_, _, _, hr, hA, hF, h0, h4, h5, h6, f_v0⟩)
    · have hr := cnd_f c9 hr
      refine HT.exit ?_
      obtain rfl := Option.some.inj hr
      exact Exists.intro _ ⟨rfl, hA, hF, h0, h4, h5, f_v0⟩
  rintro R w ⟨s3, es, hA, hF, h0, h4, h5, f_v0⟩
  obtain rfl := es.symm
  refine HT.seq ?_
  refine HT.seq ?_
  obtain ⟨e21, hr⟩ := ck_some hr
  obtain ⟨x22, q23, hr⟩ := bd_some hr
  refine HT.text (l := ⟨_, true, .raw v0⟩ :: ⟨_, true, .raw (.int .i64 (p0.length : Int))⟩ :: ⟨_, true, .raw (.bool (decide ((0 : Int) < (p0.length : Int))))⟩ :: ⟨_, true, .raw (.bool (decide ((0 : Int) < (p0.length : Int))))⟩ :: ⟨_, (true && ((decide ((0 : Int) < (p0.length : Int))) == true)), .raw v0⟩ :: ⟨_, (true && ((decide ((0 : Int) < (p0.length : Int))) == true)), .raw (.int .u8 (bAt p0 (0 : Int)))⟩ :: ⟨_, (true && ((decide ((0 : Int) < (p0.length : Int))) == true)), .raw (.bool ((bAt p0 (0 : Int)) == (45 : Int)))⟩ :: ⟨_, true, .raw (.bool x22)⟩ :: []) (tl := []) (by kernel_rfl) (by kernel_rfl) (by kernel_rfl) ?_ ?_
  · exact
      Obls.cons (Obl.plain rfl rfl fun R' w' hw hs hd => by have a0 : R' 0 = v0 := (hs 0 rfl).trans h0; exact of_move a0) <|
      Obls.cons (Obl.plain rfl rfl fun R' w' hw hs hd => by have a0 : R' 37 = v0 := hd 0 _ _ _ rfl rfl rfl rfl rfl; have ra0 := (f_v0.fr hw).eq a0; exact of_len_str ra0 Tryd.underlying9) <|
      Obls.cons (Obl.plain rfl rfl fun R' w' hw hs hd => by have a0 : R' 38 = .int .i64 (p0.length : Int) := hd 0 _ _ _ rfl rfl rfl rfl rfl; exact of_gtr a0 rfl) <|
      Obls.cons (Obl.plain rfl rfl fun R' w' hw hs hd => by have a0 : R' 39 = .bool (decide ((0 : Int) < (p0.length : Int))) := hd 0 _ _ _ rfl rfl rfl rfl rfl; exact of_move a0) <|
      Obls.cons (Obl.grd 3 true _ _ _ rfl rfl rfl rfl rfl (by kernel_rfl) fun hg R' w' hw hs hd => by have a0 : R' 0 = v0 := (hs 0 rfl).trans h0; exact of_move a0) <|
      Obls.cons (Obl.grd 3 true _ _ _ rfl rfl rfl rfl rfl (by kernel_rfl) fun hg R' w' hw hs hd => by have a0 : R' 41 = v0 := hd 0 _ _ _ rfl rfl rfl rfl hg; have ra0 := (f_v0.fr hw).eq a0; exact of_strIndex ra0 rfl Tryd.underlying9 (gd e21 hg)) <|
      Obls.cons (Obl.grd 3 true _ _ _ rfl rfl rfl rfl rfl (by kernel_rfl) fun hg R' w' hw hs hd => by have a0 : R' 42 = .int .u8 (bAt p0 (0 : Int)) := hd 0 _ _ _ rfl rfl rfl rfl hg; exact of_eql a0 rfl) <|
      Obls.cons (Obl.plain rfl rfl fun R' w' hw hs hd => by have a0 : R' 40 = .bool (decide ((0 : Int) < (p0.length : Int))) := hd 0 _ _ _ rfl rfl rfl rfl rfl; exact of_pick (decide ((0 : Int) < (p0.length : Int))) a0 (fun hc => by have a1 : R' 43 = .bool ((bAt p0 (0 : Int)) == (45 : Int)) := hd 1 _ _ _ rfl rfl rfl rfl (g_and rfl (beq_of hc)); show _ = Value.bool x22; rw [q23, hc]; exact a1) (fun hc => by show _ = Value.bool x22; rw [q23, hc]; exact rfl)) <|
      Obls.nil
  intro R w hw hs hF'
  replace h0 : R 0 = v0 := (hs 0 rfl).trans h0
  replace h4 : R 4 = .int .i64 s3.1 := (hs 4 rfl).trans h4
  replace h5 : R 5 = .int .i64 s3.2 := (hs 5 rfl).trans h5
  have h44 : R 44 = .bool x22 := hF' 7 _ _ rfl rfl rfl
  replace f_v0 := f_v0.fr hw
  replace hA := hA.fr hw.size
  replace hF := hF.trans hw
  clear hs hF' hw
  refine seqR_nil ?_
  refine HT.cond x22 h44 (fun c24 => ?_) (fun c24 => ?_)
  · have hr := cnd_t c24 hr
    obtain ⟨e25, hr⟩ := ck_some hr
    refine HT.text (l := ⟨_, true, .raw (.int .i64 s3.1)⟩ :: ⟨_, true, .raw (.int .i64 (0 - s3.1))⟩ :: ⟨_, true, .raw (.int .i64 (0 - s3.1))⟩ :: []) (tl := []) (by kernel_rfl) (by kernel_rfl) (by kernel_rfl) ?_ ?_
    · exact
        Obls.cons (Obl.plain rfl rfl fun R' w' hw hs hd => by have a0 : R' 4 = .int .i64 s3.1 := (hs 4 rfl).trans h4; exact of_move a0) <|
        Obls.cons (Obl.plain rfl rfl fun R' w' hw hs hd => by have a0 : R' 45 = .int .i64 s3.1 := hd 0 _ _ _ rfl rfl rfl rfl rfl; exact of_neg a0 e25) <|
        Obls.cons (Obl.plain rfl rfl fun R' w' hw hs hd => by have a0 : R' 46 = .int .i64 (0 - s3.1) := hd 0 _ _ _ rfl rfl rfl rfl rfl; exact of_assign a0) <|
        Obls.nil
    intro R w hw hs hF'
    replace h0 : R 0 = v0 := (hs 0 rfl).trans h0
    replace h5 : R 5 = .int .i64 s3.2 := (hs 5 rfl).trans h5
    have h4 : R 4 = .int .i64 (0 - s3.1) := hF' 2 _ _ rfl rfl rfl
    replace f_v0 := f_v0.fr hw
    replace hA := hA.fr hw.size
    replace hF := hF.trans hw
    clear hs hF' hw
    refine seqR_nil ?_
    refine HT.seq ?_
    refine HT.seq ?_
    obtain ⟨x26, q27, hr⟩ := bd_some hr
    obtain ⟨x28, q29, hr⟩ := cl_some hr
    obtain ⟨x30, q31, hr⟩ := bd_some hr
    refine HT.text (l := ⟨_, true, .raw (.int .i64 s3.2)⟩ :: ⟨_, true, .raw (.bool (decide ((9 : Int) < s3.2)))⟩ :: ⟨_, true, .raw (.bool (decide ((9 : Int) < s3.2)))⟩ :: ⟨_, (true && ((decide ((9 : Int) < s3.2)) == false)), .raw v0⟩ :: ⟨_, (true && ((decide ((9 : Int) < s3.2)) == false)), .raw (.int .i64 (p0.length : Int))⟩ :: ⟨_, (true && ((decide ((9 : Int) < s3.2)) == false)), .raw (.bool (decide ((10 : Int) < (p0.length : Int))))⟩ :: ⟨_, true, .raw (.bool x26)⟩ :: ⟨_, true, .raw (.bool x26)⟩ :: ⟨_, (true && (x26 == false)), .raw (.int .i64 (0 - s3.1))⟩ :: ⟨_, (true && (x26 == false)), .rep eStr A x28⟩ :: ⟨_, (true && (x26 == false)), .raw v0⟩ :: ⟨_, (true && (x26 == false)), .raw (.bool (!(x28 == p0)))⟩ :: ⟨_, true, .raw (.bool x30)⟩ :: []) (tl := []) (by kernel_rfl) (by kernel_rfl) (by kernel_rfl) ?_ ?_
    · exact
        Obls.cons (Obl.plain rfl rfl fun R' w' hw hs hd => by have a0 : R' 5 = .int .i64 s3.2 := (hs 5 rfl).trans h5; exact of_move a0) <|
        Obls.cons (Obl.plain rfl rfl fun R' w' hw hs hd => by have a0 : R' 47 = .int .i64 s3.2 := hd 0 _ _ _ rfl rfl rfl rfl rfl; exact of_gtr a0 rfl) <|
        Obls.cons (Obl.plain rfl rfl fun R' w' hw hs hd => by have a0 : R' 48 = .bool (decide ((9 : Int) < s3.2)) := hd 0 _ _ _ rfl rfl rfl rfl rfl; exact of_move a0) <|
        Obls.cons (Obl.grd 2 false _ _ _ rfl rfl rfl rfl rfl (by kernel_rfl) fun hg R' w' hw hs hd => by have a0 : R' 0 = v0 := (hs 0 rfl).trans h0; exact of_move a0) <|
        Obls.cons (Obl.grd 2 false _ _ _ rfl rfl rfl rfl rfl (by kernel_rfl) fun hg R' w' hw hs hd => by have a0 : R' 50 = v0 := hd 0 _ _ _ rfl rfl rfl rfl hg; have ra0 := (f_v0.fr hw).eq a0; exact of_len_str ra0 Tryd.underlying9) <|
        Obls.cons (Obl.grd 2 false _ _ _ rfl rfl rfl rfl rfl (by kernel_rfl) fun hg R' w' hw hs hd => by have a0 : R' 51 = .int .i64 (p0.length : Int) := hd 0 _ _ _ rfl rfl rfl rfl hg; exact of_gtr a0 rfl) <|
        Obls.cons (Obl.plain rfl rfl fun R' w' hw hs hd => by have a0 : R' 49 = .bool (decide ((9 : Int) < s3.2)) := hd 0 _ _ _ rfl rfl rfl rfl rfl; exact of_pick (decide ((9 : Int) < s3.2)) a0 (fun hc => by show _ = Value.bool x26; rw [q27, hc]; exact rfl) (fun hc => by have a2 : R' 52 = .bool (decide ((10 : Int) < (p0.length : Int))) := hd 1 _ _ _ rfl rfl rfl rfl (g_and rfl (beq_of hc)); show _ = Value.bool x26; rw [q27, hc]; exact a2)) <|
        Obls.cons (Obl.plain rfl rfl fun R' w' hw hs hd => by have a0 : R' 53 = .bool x26 := hd 0 _ _ _ rfl rfl rfl rfl rfl; exact of_move a0) <|
        Obls.cons (Obl.grd 7 false _ _ _ rfl rfl rfl rfl rfl (by kernel_rfl) fun hg R' w' hw hs hd => by have a0 : R' 4 = .int .i64 (0 - s3.1) := (hs 4 rfl).trans h4; exact of_move a0) <|
        Obls.cons (Obl.grd 7 false _ _ _ rfl rfl rfl rfl rfl (by kernel_rfl) fun hg R' w' hw hs hd => by have a0 : R' 55 = .int .i64 (0 - s3.1) := hd 0 _ _ _ rfl rfl rfl rfl hg; exact of_call Tryd.call21 (M_spec_FormatInt_ok (q29 hg) (hA.fr hw.size) a0)) <|
        Obls.cons (Obl.grd 7 false _ _ _ rfl rfl rfl rfl rfl (by kernel_rfl) fun hg R' w' hw hs hd => by have a0 : R' 0 = v0 := (hs 0 rfl).trans h0; exact of_move a0) <|
        Obls.cons (Obl.grd 7 false _ _ _ rfl rfl rfl rfl rfl (by kernel_rfl) fun hg R' w' hw hs hd => by have a0 : Rep eStr A w' (R' 56) x28 := hd 0 _ _ _ rfl rfl rfl rfl hg; have a1 : R' 57 = v0 := hd 1 _ _ _ rfl rfl rfl rfl hg; have ra1 := (f_v0.fr hw).eq a1; exact of_sneq a0 ra1) <|
        Obls.cons (Obl.plain rfl rfl fun R' w' hw hs hd => by have a0 : R' 54 = .bool x26 := hd 0 _ _ _ rfl rfl rfl rfl rfl; exact of_pick x26 a0 (fun hc => by show _ = Value.bool x30; rw [q31, hc]; exact rfl) (fun hc => by have a2 : R' 58 = .bool (!(x28 == p0)) := hd 1 _ _ _ rfl rfl rfl rfl (g_and rfl (beq_of hc)); show _ = Value.bool x30; rw [q31, hc]; exact a2)) <|
        Obls.nil
    intro R w hw hs hF'
    replace h4 : R 4 = .int .i64 (0 - s3.1) := (hs 4 rfl).trans h4
    have h59 : R 59 = .bool x30 := hF' 12 _ _ rfl rfl rfl
    replace hA := hA.fr hw.size
    replace hF := hF.trans hw
    clear hs hF' hw
    refine seqR_nil ?_
    refine HT.cond x30 h59 (fun c32 => ?_) (fun c32 => ?_)
    · have hr := cnd_t c32 hr
      refine HT.seq ?_
      refine HT.text (l := ⟨_, true, .raw (.int .i64 (0 : Int))⟩ :: ⟨_, true, .raw (.bool false)⟩ :: []) (tl := []) (by kernel_rfl) (by kernel_rfl) (by kernel_rfl) ?_ ?_
      · exact
          Obls.cons (Obl.plain rfl rfl fun R' w' hw hs hd => by exact of_assign rfl) <|
          Obls.cons (Obl.plain rfl rfl fun R' w' hw hs hd => by exact of_assign rfl) <|
          Obls.nil
      intro R w hw hs hF'
      have h2 : R 2 = .int .i64 (0 : Int) := hF' 0 _ _ rfl rfl rfl
      have h3 : R 3 = .bool false := hF' 1 _ _ rfl rfl rfl
      replace hA := hA.fr hw.size
      replace hF := hF.trans hw
      clear hs hF' hw
      refine seqR_nil ?_
      refine HT.ret ?_
      obtain rfl := Option.some.inj hr
      exact ⟨.inr rfl, [R 2, R 3], ⟨rfl, ⟨rfl, trivial⟩⟩, ⟨_, _, rfl, h2, h3⟩, hF⟩
    · have hr := cnd_f c32 hr
      refine HT.skip ?_
      refine HT.seq ?_
      refine HT.text (l := ⟨_, true, .raw (.int .i64 (0 - s3.1))⟩ :: ⟨_, true, .raw (.int .i64 (0 - s3.1))⟩ :: ⟨_, true, .raw (.bool true)⟩ :: []) (tl := []) (by kernel_rfl) (by kernel_rfl) (by kernel_rfl) ?_ ?_
      · exact
          Obls.cons (Obl.plain rfl rfl fun R' w' hw hs hd => by have a0 : R' 4 = .int .i64 (0 - s3.1) := (hs 4 rfl).trans h4; exact of_move a0) <|
          Obls.cons (Obl.plain rfl rfl fun R' w' hw hs hd => by have a0 : R' 60 = .int .i64 (0 - s3.1) := hd 0 _ _ _ rfl rfl rfl rfl rfl; exact of_assign a0) <|
          Obls.cons (Obl.plain rfl rfl fun R' w' hw hs hd => by exact of_assign rfl) <|
          Obls.nil
      intro R w hw hs hF'
      have h2 : R 2 = .int .i64 (0 - s3.1) := hF' 1 _ _ rfl rfl rfl
      have h3 : R 3 = .bool true := hF' 2 _ _ rfl rfl rfl
      replace hA := hA.fr hw.size
      replace hF := hF.trans hw
      clear hs hF' hw
      refine seqR_nil ?_
      refine HT.ret ?_
      obtain rfl := Option.some.inj hr
      exact ⟨.inr rfl, [R 2, R 3], ⟨rfl, ⟨rfl, trivial⟩⟩, ⟨_, _, rfl, h2, h3⟩, hF⟩
  · have hr := cnd_f c24 hr
    refine HT.skip ?_
    refine HT.seq ?_
    refine HT.seq ?_
    obtain ⟨x33, q34, hr⟩ := bd_some hr
    obtain ⟨x35, q36, hr⟩ := cl_some hr
    obtain ⟨x37, q38, hr⟩ := bd_some hr
    refine HT.text (l := ⟨_, true, .raw (.int .i64 s3.2)⟩ :: ⟨_, true, .raw (.bool (decide ((9 : Int) < s3.2)))⟩ :: ⟨_, true, .raw (.bool (decide ((9 : Int) < s3.2)))⟩ :: ⟨_, (true && ((decide ((9 : Int) < s3.2)) == false)), .raw v0⟩ :: ⟨_, (true && ((decide ((9 : Int) < s3.2)) == false)), .raw (.int .i64 (p0.length : Int))⟩ :: ⟨_, (true && ((decide ((9 : Int) < s3.2)) == false)), .raw (.bool (decide ((10 : Int) < (p0.length : Int))))⟩ :: ⟨_, true, .raw (.bool x33)⟩ :: ⟨_, true, .raw (.bool x33)⟩ :: ⟨_, (true && (x33 == false)), .raw (.int .i64 s3.1)⟩ :: ⟨_, (true && (x33 == false)), .rep eStr A x35⟩ :: ⟨_, (true && (x33 == false)), .raw v0⟩ :: ⟨_, (true && (x33 == false)), .raw (.bool (!(x35 == p0)))⟩ :: ⟨_, true, .raw (.bool x37)⟩ :: []) (tl := []) (by kernel_rfl) (by kernel_rfl) (by kernel_rfl) ?_ ?_
    · exact
        Obls.cons (Obl.plain rfl rfl fun R' w' hw hs hd => by have a0 : R' 5 = .int .i64 s3.2 := (hs 5 rfl).trans h5; exact of_move a0) <|
        Obls.cons (Obl.plain rfl rfl fun R' w' hw hs hd => by have a0 : R' 47 = .int .i64 s3.2 := hd 0 _ _ _ rfl rfl rfl rfl rfl; exact of_gtr a0 rfl) <|
        Obls.cons (Obl.plain rfl rfl fun R' w' hw hs hd => by have a0 : R' 48 = .bool (decide ((9 : Int) < s3.2)) := hd 0 _ _ _ rfl rfl rfl rfl rfl; exact of_move a0) <|
        Obls.cons (Obl.grd 2 false _ _ _ rfl rfl rfl rfl rfl (by kernel_rfl) fun hg R' w' hw hs hd => by have a0 : R' 0 = v0 := (hs 0 rfl).trans h0; exact of_move a0) <|
        Obls.cons (Obl.grd 2 false _ _ _ rfl rfl rfl rfl rfl (by kernel_rfl) fun hg R' w' hw hs hd => by have a0 : R' 50 = v0 := hd 0 _ _ _ rfl rfl rfl rfl hg; have ra0 := (f_v0.fr hw).eq a0; exact of_len_str ra0 Tryd.underlying9) <|
        Obls.cons (Obl.grd 2 false _ _ _ rfl rfl rfl rfl rfl (by kernel_rfl) fun hg R' w' hw hs hd => by have a0 : R' 51 = .int .i64 (p0.length : Int) := hd 0 _ _ _ rfl rfl rfl rfl hg; exact of_gtr a0 rfl) <|
        Obls.cons (Obl.plain rfl rfl fun R' w' hw hs hd => by have a0 : R' 49 = .bool (decide ((9 : Int) < s3.2)) := hd 0 _ _ _ rfl rfl rfl rfl rfl; exact of_pick (decide ((9 : Int) < s3.2)) a0 (fun hc => by show _ = Value.bool x33; rw [q34, hc]; exact rfl) (fun hc => by have a2 : R' 52 = .bool (decide ((10 : Int) < (p0.length : Int))) := hd 1 _ _ _ rfl rfl rfl rfl (g_and rfl (beq_of hc)); show _ = Value.bool x33; rw [q34, hc]; exact a2)) <|
        Obls.cons (Obl.plain rfl rfl fun R' w' hw hs hd => by have a0 : R' 53 = .bool x33 := hd 0 _ _ _ rfl rfl rfl rfl rfl; exact of_move a0) <|
        Obls.cons (Obl.grd 7 false _ _ _ rfl rfl rfl rfl rfl (by kernel_rfl) fun hg R' w' hw hs hd => by have a0 : R' 4 = .int .i64 s3.1 := (hs 4 rfl).trans h4; exact of_move a0) <|
        Obls.cons (Obl.grd 7 false _ _ _ rfl rfl rfl rfl rfl (by kernel_rfl) fun hg R' w' hw hs hd => by have a0 : R' 55 = .int .i64 s3.1 := hd 0 _ _ _ rfl rfl rfl rfl hg; exact of_call Tryd.call21 (M_spec_FormatInt_ok (q36 hg) (hA.fr hw.size) a0)) <|
        Obls.cons (Obl.grd 7 false _ _ _ rfl rfl rfl rfl rfl (by kernel_rfl) fun hg R' w' hw hs hd => by have a0 : R' 0 = v0 := (hs 0 rfl).trans h0; exact of_move a0) <|
        Obls.cons (Obl.grd 7 false _ _ _ rfl rfl rfl rfl rfl (by kernel_rfl) fun hg R' w' hw hs hd => by have a0 : Rep eStr A w' (R' 56) x35 := hd 0 _ _ _ rfl rfl rfl rfl hg; have a1 : R' 57 = v0 := hd 1 _ _ _ rfl rfl rfl rfl hg; have ra1 := (f_v0.fr hw).eq a1; exact of_sneq a0 ra1) <|
        Obls.cons (Obl.plain rfl rfl fun R' w' hw hs hd => by have a0 : R' 54 = .bool x33 := hd 0 _ _ _ rfl rfl rfl rfl rfl; exact of_pick x33 a0 (fun hc => by show _ = Value.bool x37; rw [q38, hc]; exact rfl) (fun hc => by have a2 : R' 58 = .bool (!(x35 == p0)) := hd 1 _ _ _ rfl rfl rfl rfl (g_and rfl (beq_of hc)); show _ = Value.bool x37; rw [q38, hc]; exact a2)) <|
        Obls.nil
    intro R w hw hs hF'
    replace h4 : R 4 = .int .i64 s3.1 := (hs 4 rfl).trans h4
    have h59 : R 59 = .bool x37 := hF' 12 _ _ rfl rfl rfl
    replace hA := hA.fr hw.size
    replace hF := hF.trans hw
    clear hs hF' hw
    refine seqR_nil ?_
    refine HT.cond x37 h59 (fun c39 => ?_) (fun c39 => ?_)
    · have hr := cnd_t c39 hr
      refine HT.seq ?_
      refine HT.text (l := ⟨_, true, .raw (.int .i64 (0 : Int))⟩ :: ⟨_, true, .raw (.bool false)⟩ :: []) (tl := []) (by kernel_rfl) (by kernel_rfl) (by kernel_rfl) ?_ ?_
      · exact
          Obls.cons (Obl.plain rfl rfl fun R' w' hw hs hd => by exact of_assign rfl) <|
          Obls.cons (Obl.plain rfl rfl fun R' w' hw hs hd => by exact of_assign rfl) <|
          Obls.nil
      intro R w hw hs hF'
      have h2 : R 2 = .int .i64 (0 : Int) := hF' 0 _ _ rfl rfl rfl
      have h3 : R 3 = .bool false := hF' 1 _ _ rfl rfl rfl
      replace hA := hA.fr hw.size
      replace hF := hF.trans hw
      clear hs hF' hw
      refine seqR_nil ?_
      refine HT.ret ?_
      obtain rfl := Option.some.inj hr
      exact ⟨.inr rfl, [R 2, R 3], ⟨rfl, ⟨rfl, trivial⟩⟩, ⟨_, _, rfl, h2, h3⟩, hF⟩
    · have hr := cnd_f c39 hr
      refine HT.skip ?_
      refine HT.seq ?_
      refine HT.text (l := ⟨_, true, .raw (.int .i64 s3.1)⟩ :: ⟨_, true, .raw (.int .i64 s3.1)⟩ :: ⟨_, true, .raw (.bool true)⟩ :: []) (tl := []) (by kernel_rfl) (by kernel_rfl) (by kernel_rfl) ?_ ?_
      · exact
          Obls.cons (Obl.plain rfl rfl fun R' w' hw hs hd => by have a0 : R' 4 = .int .i64 s3.1 := (hs 4 rfl).trans h4; exact of_move a0) <|
          Obls.cons (Obl.plain rfl rfl fun R' w' hw hs hd => by have a0 : R' 60 = .int .i64 s3.1 := hd 0 _ _ _ rfl rfl rfl rfl rfl; exact of_assign a0) <|
          Obls.cons (Obl.plain rfl rfl fun R' w' hw hs hd => by exact of_assign rfl) <|
          Obls.nil
      intro R w hw hs hF'
      have h2 : R 2 = .int .i64 s3.1 := hF' 1 _ _ rfl rfl rfl
      have h3 : R 3 = .bool true := hF' 2 _ _ rfl rfl rfl
      replace hA := hA.fr hw.size
      replace hF := hF.trans hw
      clear hs hF' hw
      refine seqR_nil ?_
      refine HT.ret ?_
      obtain rfl := Option.some.inj hr
      exact ⟨.inr rfl, [R 2, R 3], ⟨rfl, ⟨rfl, trivial⟩⟩, ⟨_, _, rfl, h2, h3⟩, hF⟩
def M_spec_l14Test_L0 (fu : Nat) (p0 : List UInt8) : Nat → Int → T_impl_Test → Option (Ex T_impl_Test T_impl_Test)
  | 0, _, _ => none
  | k + 1, y5, y6 =>
    bif (decide (y5 < (6 : Int))) then (
      cl true (M_spec_FeatureName fu y5) fun x8 =>
      ck (!(true && ((decide ((x8.length : Int) < (p0.length : Int))) == true)) || subR 0 (x8.length : Int) p0.length) <|
      bd ((decide ((x8.length : Int) < (p0.length : Int))) && ((subL p0 0 (x8.length : Int)) == x8)) fun x12 =>
      bif x12 then (
        ck (subR (x8.length : Int) (p0.length : Int) p0.length) <|
        ck (inR (0 : Int) (subL p0 (x8.length : Int) (p0.length : Int)).length) <|
        bif ((bAt (subL p0 (x8.length : Int) (p0.length : Int)) (0 : Int)) == (60 : Int)) then (
          ck (subR (1 : Int) ((subL p0 (x8.length : Int) (p0.length : Int)).length : Int) (subL p0 (x8.length : Int) (p0.length : Int)).length) <|
          cl true (M_spec_ParseInt fu (subL (subL p0 (x8.length : Int) (p0.length : Int)) (1 : Int) ((subL p0 (x8.length : Int) (p0.length : Int)).length : Int))) fun x20 =>
          some (Ex.ret (y5, x20.1, true))
        ) else (
          ck (!(true && ((decide ((2 : Int) < ((subL p0 (x8.length : Int) (p0.length : Int)).length : Int))) == true)) || subR 0 (2 : Int) (subL p0 (x8.length : Int) (p0.length : Int)).length) <|
          bd ((decide ((2 : Int) < ((subL p0 (x8.length : Int) (p0.length : Int)).length : Int))) && ((subL (subL p0 (x8.length : Int) (p0.length : Int)) 0 (2 : Int)) == ([62, 61] : List UInt8))) fun x25 =>
          bif x25 then (
            ck (subR (2 : Int) ((subL p0 (x8.length : Int) (p0.length : Int)).length : Int) (subL p0 (x8.length : Int) (p0.length : Int)).length) <|
            cl true (M_spec_ParseInt fu (subL (subL p0 (x8.length : Int) (p0.length : Int)) (2 : Int) ((subL p0 (x8.length : Int) (p0.length : Int)).length : Int))) fun x29 =>
            some (Ex.ret (y5, x29.1, false))
          ) else (
            ck (i64B (y5 + (1 : Int))) <|
            M_spec_l14Test_L0 fu p0 k (y5 + (1 : Int)) y6
          )
        )
      ) else (
        ck (i64B (y5 + (1 : Int))) <|
        M_spec_l14Test_L0 fu p0 k (y5 + (1 : Int)) y6
      )
    ) else (
      some (Ex.go y6)
    )
def M_spec_l14Test (fu : Nat) (p0 : List UInt8) : Option T_impl_Test :=
  cl true (M_spec_l14Test_L0 fu p0 fu (0 : Int) ((0 : Int), ((0 : Int), false))) fun rl2 =>
  exM rl2 (fun r => some r) fun s4 =>
  some ((0 : Int), (0 : Int), false)
set_option linter.unusedSimpArgs false in
set_option maxRecDepth 100000 in
set_option maxHeartbeats 4000000 in
theorem M_spec_l14Test_ok {fu : Nat} {A0 : Av} {p0 : List UInt8} {r : T_impl_Test} (hr : M_spec_l14Test fu p0 = some r) {w : World} {v0 : Value} (hA : AvOK A0 w) (h0 : Rep eStr A0 w v0 p0) :
    Calls Tryd.prog 10 #[v0] w fun e w' => ∃ v, e = .returned v ∧ (Rep E_impl_Test A0 w' v r ∧ Fr w w') := by
  unfold M_spec_l14Test at hr
  obtain ⟨w0, hw0⟩ : ∃ w0, w0 = w := ⟨_, rfl⟩
  have hF : Fr w0 w := hw0 ▸ Fr.refl _
  have hA0 : ∀ b o, A0 b o → b < w0.heap.size := fun b o h => hw0 ▸ hA b o h
  have hA00 : AvOK A0 w0 := hA0
  rw [show Fr w = Fr w0 from hw0 ▸ rfl]
  clear hw0
  obtain ⟨A, hAe⟩ : ∃ A, A = A0 := ⟨_, rfl⟩
  have hAA : ∀ b o, A0 b o → A b o := fun b o h => hAe ▸ h
  replace hA : AvOK A w := hAe ▸ hA
  have hO : IniOK [] A w := IniOK.nil
  refine calls_of_HT2 [.cell 2 36] Tryd.func10 Tryd.ntmps10 (by decide) rfl rfl (Nat.le_of_ble_eq_true rfl) ?_
  intro R hR
  have f_v0 : Rep eStr A w v0 p0 := hAe ▸ h0
  replace h0 : R 0 = v0 := hR 0 _ rfl
  clear hR hAe
  refine HT.seq ?_
  refine HT.textR [] (⟨_, true, [], some (.box w0.heap.size 36 E_impl_Test ((0 : Int), ((0 : Int), false))), true, fun A => .any⟩ :: []) (by kernel_rfl) (by kernel_rfl) (Wf.mk' (by kernel_rfl) (UAll.cons ust_any (UAll.nil)) (by kernel_rfl) (by kernel_rfl)) hO hA ?_ ?_
  · exact
      OblsR.cons (OblR.made _ rfl rfl rfl rfl fun A' R' w' ho hd => by exact made_alloc Tryd.zeroValue36 (fun A w => rep_pr rep1_int (rep_pr rep1_int rep1_bool)) (Nat.le_trans hF.size ho.ch.size)) <|
      OblsR.nil
  intro done ρ σ A R w hdn hI
  replace h0 : R 0 = v0 := (hI.reg rfl).trans h0
  obtain ⟨b2_0, e_b2_0⟩ := hI.boxv hdn 0 rfl rfl
  have h2 : R 2 = (.pointer (some ⟨b2_0, 0, none⟩)) := (hI.opvR hdn 0 0 rfl rfl rfl rfl rfl).symm.trans e_b2_0
  replace f_v0 := f_v0.stp hI.stp
  replace hAA := hI.low' hAA hA0 (hO.ge (trivial))
  replace hF : Fr w0 w := hF.tr hI.ch (hO.ge (trivial))
  replace hO : IniOK [ob (.pointer (some ⟨b2_0, 0, none⟩)) (.box w0.heap.size 36 E_impl_Test ((0 : Int), ((0 : Int), false)))] A w := hI.left hdn [(0, ob (.pointer (some ⟨b2_0, 0, none⟩)) (.box w0.heap.size 36 E_impl_Test ((0 : Int), ((0 : Int), false))))] ⟨rfl, rfl, e_b2_0, rfl, rfl, trivial⟩
  replace hA := hI.avok
  clear hI
  refine HT.seq ?_
  refine HT.seq ?_
  refine HT.text (l := ⟨_, true, .raw (.int .i64 (0 : Int))⟩ :: []) (tl := []) (by kernel_rfl) (by kernel_rfl) (by kernel_rfl) ?_ ?_
  · exact
      Obls.cons (Obl.plain rfl rfl fun R' w' hw hs hd => by exact of_assign rfl) <|
      Obls.nil
  intro R w hw hs hF'
  replace h0 : R 0 = v0 := (hs 0 rfl).trans h0
  replace h2 : R 2 = (.pointer (some ⟨b2_0, 0, none⟩)) := (hs 2 rfl).trans h2
  have h3 : R 3 = .int .i64 (0 : Int) := hF' 0 _ _ rfl rfl rfl
  replace f_v0 := f_v0.fr hw
  replace hO := hO.fr hw
  replace hA := hA.fr hw.size
  replace hF := hF.trans hw
  clear hs hF' hw
  refine seqR_nil ?_
  obtain ⟨rl2, q3, hr⟩ := cl_some hr
  replace q3 := q3 rfl
  refine HT.cut0 (fun R w => ∃ A : Av, ∃ (s4 : T_impl_Test), rl2 = Ex.go s4 ∧ AvOK A w ∧ Fr w0 w ∧ (∀ b o, A0 b o → A b o) ∧ IniOK [ob (.pointer (some ⟨b2_0, 0, none⟩)) (.box w0.heap.size 36 E_impl_Test s4)] A w ∧ R 2 = (.pointer (some ⟨b2_0, 0, none⟩))) ?_ ?_
  · refine HT.block ?_
    refine HT.loop (fun k R w => ∃ A : Av, ∃ (y5 : Int) (y6 : T_impl_Test), M_spec_l14Test_L0 fu p0 k y5 y6 = some rl2 ∧ AvOK A w ∧ Fr w0 w ∧ (∀ b o, A0 b o → A b o) ∧ IniOK [ob (.pointer (some ⟨b2_0, 0, none⟩)) (.box w0.heap.size 36 E_impl_Test y6)] A w ∧ R 0 = v0 ∧ R 2 = (.pointer (some ⟨b2_0, 0, none⟩)) ∧ R 3 = .int .i64 y5 ∧ Rep eStr A w v0 p0) fu ⟨_, _, _, q3, hA, hF, hAA, hO, h0, h2, h3, f_v0⟩ ?_
    have hr0 := hr; clear hr q3
    rintro k R w ⟨A, y5, y6, hr, hA, hF, hAA, hO, h0, h2, h3, f_v0⟩
    rcases k with _ | k
    · cases (show none = some _ from hr)
    rw [M_spec_l14Test_L0] at hr
    refine HT.seq ?_
    refine HT.seq ?_
    refine HT.text (l := ⟨_, true, .raw (.int .i64 y5)⟩ :: ⟨_, true, .raw (.bool (decide (y5 < (6 : Int))))⟩ :: []) (tl := []) (by kernel_rfl) (by kernel_rfl) (by kernel_rfl) ?_ ?_
    · exact
        Obls.cons (Obl.plain rfl rfl fun R' w' hw hs hd => by have a0 : R' 3 = .int .i64 y5 := (hs 3 rfl).trans h3; exact of_move a0) <|
        Obls.cons (Obl.plain rfl rfl fun R' w' hw hs hd => by have a0 : R' 10 = .int .i64 y5 := hd 0 _ _ _ rfl rfl rfl rfl rfl; exact of_lss a0 rfl) <|
        Obls.nil
    intro R w hw hs hF'
    replace h0 : R 0 = v0 := (hs 0 rfl).trans h0
    replace h2 : R 2 = (.pointer (some ⟨b2_0, 0, none⟩)) := (hs 2 rfl).trans h2
    replace h3 : R 3 = .int .i64 y5 := (hs 3 rfl).trans h3
    have h11 : R 11 = .bool (decide (y5 < (6 : Int))) := hF' 1 _ _ rfl rfl rfl
    replace f_v0 := f_v0.fr hw
    replace hO := hO.fr hw
    replace hA := hA.fr hw.size
    replace hF := hF.trans hw
    clear hs hF' hw
    refine seqR_nil ?_
    refine HT.cond (decide (y5 < (6 : Int))) h11 (fun c7 => ?_) (fun c7 => ?_)
    · have hr := cnd_t c7 hr
      refine HT.skip ?_
      refine HT.seq ?_
      refine HT.block ?_
      refine HT.seq ?_
      obtain ⟨x8, q9, hr⟩ := cl_some hr
      refine HT.text (l := ⟨_, true, .raw (.int .i64 y5)⟩ :: ⟨_, true, .rep eStr A x8⟩ :: ⟨_, true, .rep eStr A x8⟩ :: []) (tl := []) (by kernel_rfl) (by kernel_rfl) (by kernel_rfl) ?_ ?_
      · exact
          Obls.cons (Obl.plain rfl rfl fun R' w' hw hs hd => by have a0 : R' 3 = .int .i64 y5 := (hs 3 rfl).trans h3; exact of_move a0) <|
          Obls.cons (Obl.plain rfl rfl fun R' w' hw hs hd => by have a0 : R' 14 = .int .i64 y5 := hd 0 _ _ _ rfl rfl rfl rfl rfl; exact of_call Tryd.call18 (M_spec_FeatureName_ok (q9 rfl) (hA.fr hw.size) a0)) <|
          Obls.cons (Obl.plain rfl rfl fun R' w' hw hs hd => by have a0 : Rep eStr A w' (R' 15) x8 := hd 0 _ _ _ rfl rfl rfl rfl rfl; exact of_assign a0) <|
          Obls.nil
      intro R w hw hs hF'
      replace h0 : R 0 = v0 := (hs 0 rfl).trans h0
      replace h2 : R 2 = (.pointer (some ⟨b2_0, 0, none⟩)) := (hs 2 rfl).trans h2
      replace h3 : R 3 = .int .i64 y5 := (hs 3 rfl).trans h3
      obtain ⟨u10, h4, f_u10⟩ : ∃ u, R 4 = u ∧ Rep eStr A w u x8 := ⟨_, rfl, hF' 2 _ _ rfl rfl rfl⟩
      replace f_v0 := f_v0.fr hw
      replace hO := hO.fr hw
      replace hA := hA.fr hw.size
      replace hF := hF.trans hw
      clear hs hF' hw
      refine seqR_nil ?_
      refine HT.seq ?_
      obtain ⟨e11, hr⟩ := ck_some hr
      obtain ⟨x12, q13, hr⟩ := bd_some hr
      refine HT.text (l := ⟨_, true, .raw v0⟩ :: ⟨_, true, .raw (.int .i64 (p0.length : Int))⟩ :: ⟨_, true, .raw u10⟩ :: ⟨_, true, .raw (.int .i64 (x8.length : Int))⟩ :: ⟨_, true, .raw (.bool (decide ((x8.length : Int) < (p0.length : Int))))⟩ :: ⟨_, true, .raw (.bool (decide ((x8.length : Int) < (p0.length : Int))))⟩ :: ⟨_, (true && ((decide ((x8.length : Int) < (p0.length : Int))) == true)), .raw v0⟩ :: ⟨_, (true && ((decide ((x8.length : Int) < (p0.length : Int))) == true)), .raw u10⟩ :: ⟨_, (true && ((decide ((x8.length : Int) < (p0.length : Int))) == true)), .raw (.int .i64 (x8.length : Int))⟩ :: ⟨_, (true && ((decide ((x8.length : Int) < (p0.length : Int))) == true)), .rep eStr A (subL p0 0 (x8.length : Int))⟩ :: ⟨_, (true && ((decide ((x8.length : Int) < (p0.length : Int))) == true)), .raw u10⟩ :: ⟨_, (true && ((decide ((x8.length : Int) < (p0.length : Int))) == true)), .raw (.bool ((subL p0 0 (x8.length : Int)) == x8))⟩ :: ⟨_, true, .raw (.bool x12)⟩ :: []) (tl := []) (by kernel_rfl) (by kernel_rfl) (by kernel_rfl) ?_ ?_
      · exact
          Obls.cons (Obl.plain rfl rfl fun R' w' hw hs hd => by have a0 : R' 0 = v0 := (hs 0 rfl).trans h0; exact of_move a0) <|
          Obls.cons (Obl.plain rfl rfl fun R' w' hw hs hd => by have a0 : R' 16 = v0 := hd 0 _ _ _ rfl rfl rfl rfl rfl; have ra0 := (f_v0.fr hw).eq a0; exact of_len_str ra0 Tryd.underlying9) <|
          Obls.cons (Obl.plain rfl rfl fun R' w' hw hs hd => by have a0 : R' 4 = u10 := (hs 4 rfl).trans h4; exact of_move a0) <|
          Obls.cons (Obl.plain rfl rfl fun R' w' hw hs hd => by have a0 : R' 18 = u10 := hd 0 _ _ _ rfl rfl rfl rfl rfl; have ra0 := (f_u10.fr hw).eq a0; exact of_len_str ra0 Tryd.underlying9) <|
          Obls.cons (Obl.plain rfl rfl fun R' w' hw hs hd => by have a0 : R' 17 = .int .i64 (p0.length : Int) := hd 0 _ _ _ rfl rfl rfl rfl rfl; have a1 : R' 19 = .int .i64 (x8.length : Int) := hd 1 _ _ _ rfl rfl rfl rfl rfl; exact of_gtr a0 a1) <|
          Obls.cons (Obl.plain rfl rfl fun R' w' hw hs hd => by have a0 : R' 20 = .bool (decide ((x8.length : Int) < (p0.length : Int))) := hd 0 _ _ _ rfl rfl rfl rfl rfl; exact of_move a0) <|
          Obls.cons (Obl.grd 5 true _ _ _ rfl rfl rfl rfl rfl (by kernel_rfl) fun hg R' w' hw hs hd => by have a0 : R' 0 = v0 := (hs 0 rfl).trans h0; exact of_move a0) <|
          Obls.cons (Obl.grd 5 true _ _ _ rfl rfl rfl rfl rfl (by kernel_rfl) fun hg R' w' hw hs hd => by have a0 : R' 4 = u10 := (hs 4 rfl).trans h4; exact of_move a0) <|
          Obls.cons (Obl.grd 5 true _ _ _ rfl rfl rfl rfl rfl (by kernel_rfl) fun hg R' w' hw hs hd => by have a0 : R' 23 = u10 := hd 0 _ _ _ rfl rfl rfl rfl hg; have ra0 := (f_u10.fr hw).eq a0; exact of_len_str ra0 Tryd.underlying9) <|
          Obls.cons (Obl.grd 5 true _ _ _ rfl rfl rfl rfl rfl (by kernel_rfl) fun hg R' w' hw hs hd => by have a0 : R' 22 = v0 := hd 0 _ _ _ rfl rfl rfl rfl hg; have a1 : R' 24 = .int .i64 (x8.length : Int) := hd 1 _ _ _ rfl rfl rfl rfl hg; have ra0 := (f_v0.fr hw).eq a0; exact of_slice_str_hi ra0 a1 Tryd.underlying9  (gd e11 hg)) <|
          Obls.cons (Obl.grd 5 true _ _ _ rfl rfl rfl rfl rfl (by kernel_rfl) fun hg R' w' hw hs hd => by have a0 : R' 4 = u10 := (hs 4 rfl).trans h4; exact of_move a0) <|
          Obls.cons (Obl.grd 5 true _ _ _ rfl rfl rfl rfl rfl (by kernel_rfl) fun hg R' w' hw hs hd => by have a0 : Rep eStr A w' (R' 25) (subL p0 0 (x8.length : Int)) := hd 0 _ _ _ rfl rfl rfl rfl hg; have a1 : R' 26 = u10 := hd 1 _ _ _ rfl rfl rfl rfl hg; have ra1 := (f_u10.fr hw).eq a1; exact of_seql a0 ra1) <|
          Obls.cons (Obl.plain rfl rfl fun R' w' hw hs hd => by have a0 : R' 21 = .bool (decide ((x8.length : Int) < (p0.length : Int))) := hd 0 _ _ _ rfl rfl rfl rfl rfl; exact of_pick (decide ((x8.length : Int) < (p0.length : Int))) a0 (fun hc => by have a1 : R' 27 = .bool ((subL p0 0 (x8.length : Int)) == x8) := hd 1 _ _ _ rfl rfl rfl rfl (g_and rfl (beq_of hc)); show _ = Value.bool x12; rw [q13, hc]; exact a1) (fun hc => by show _ = Value.bool x12; rw [q13, hc]; exact rfl)) <|
          Obls.nil
      intro R w hw hs hF'
      replace h0 : R 0 = v0 := (hs 0 rfl).trans h0
      replace h2 : R 2 = (.pointer (some ⟨b2_0, 0, none⟩)) := (hs 2 rfl).trans h2
      replace h3 : R 3 = .int .i64 y5 := (hs 3 rfl).trans h3
      replace h4 : R 4 = u10 := (hs 4 rfl).trans h4
      have h28 : R 28 = .bool x12 := hF' 12 _ _ rfl rfl rfl
      replace f_u10 := f_u10.fr hw
      replace f_v0 := f_v0.fr hw
      replace hO := hO.fr hw
      replace hA := hA.fr hw.size
      replace hF := hF.trans hw
      clear hs hF' hw
      refine seqR_nil ?_
      refine HT.cond x12 h28 (fun c14 => ?_) (fun c14 => ?_)
      · have hr := cnd_t c14 hr
        refine HT.seq ?_
        obtain ⟨e15, hr⟩ := ck_some hr
        refine HT.text (l := ⟨_, true, .raw v0⟩ :: ⟨_, true, .raw u10⟩ :: ⟨_, true, .raw (.int .i64 (x8.length : Int))⟩ :: ⟨_, true, .rep eStr A (subL p0 (x8.length : Int) (p0.length : Int))⟩ :: ⟨_, true, .rep eStr A (subL p0 (x8.length : Int) (p0.length : Int))⟩ :: []) (tl := []) (by kernel_rfl) (by kernel_rfl) (by kernel_rfl) ?_ ?_
        · exact
            Obls.cons (Obl.plain rfl rfl fun R' w' hw hs hd => by have a0 : R' 0 = v0 := (hs 0 rfl).trans h0; exact of_move a0) <|
            Obls.cons (Obl.plain rfl rfl fun R' w' hw hs hd => by have a0 : R' 4 = u10 := (hs 4 rfl).trans h4; exact of_move a0) <|
            Obls.cons (Obl.plain rfl rfl fun R' w' hw hs hd => by have a0 : R' 30 = u10 := hd 0 _ _ _ rfl rfl rfl rfl rfl; have ra0 := (f_u10.fr hw).eq a0; exact of_len_str ra0 Tryd.underlying9) <|
            Obls.cons (Obl.plain rfl rfl fun R' w' hw hs hd => by have a0 : R' 29 = v0 := hd 0 _ _ _ rfl rfl rfl rfl rfl; have a1 : R' 31 = .int .i64 (x8.length : Int) := hd 1 _ _ _ rfl rfl rfl rfl rfl; have ra0 := (f_v0.fr hw).eq a0; exact of_slice_str_lo ra0 a1 Tryd.underlying9  e15) <|
            Obls.cons (Obl.plain rfl rfl fun R' w' hw hs hd => by have a0 : Rep eStr A w' (R' 32) (subL p0 (x8.length : Int) (p0.length : Int)) := hd 0 _ _ _ rfl rfl rfl rfl rfl; exact of_assign a0) <|
            Obls.nil
        intro R w hw hs hF'
        replace h0 : R 0 = v0 := (hs 0 rfl).trans h0
        replace h2 : R 2 = (.pointer (some ⟨b2_0, 0, none⟩)) := (hs 2 rfl).trans h2
        replace h3 : R 3 = .int .i64 y5 := (hs 3 rfl).trans h3
        obtain ⟨u16, h5, f_u16⟩ : ∃ u, R 5 = u ∧ Rep eStr A w u (subL p0 (x8.length : Int) (p0.length : Int)) := ⟨_, rfl, hF' 4 _ _ rfl rfl rfl⟩
        replace f_v0 := f_v0.fr hw
        replace hO := hO.fr hw
        replace hA := hA.fr hw.size
        replace hF := hF.trans hw
        clear hs hF' hw
        refine seqR_nil ?_
        refine HT.seq ?_
        refine HT.seq ?_
        obtain ⟨e17, hr⟩ := ck_some hr
        refine HT.text (l := ⟨_, true, .raw u16⟩ :: ⟨_, true, .raw (.int .u8 (bAt (subL p0 (x8.length : Int) (p0.length : Int)) (0 : Int)))⟩ :: ⟨_, true, .raw (.bool ((bAt (subL p0 (x8.length : Int) (p0.length : Int)) (0 : Int)) == (60 : Int)))⟩ :: []) (tl := []) (by kernel_rfl) (by kernel_rfl) (by kernel_rfl) ?_ ?_
        · exact
            Obls.cons (Obl.plain rfl rfl fun R' w' hw hs hd => by have a0 : R' 5 = u16 := (hs 5 rfl).trans h5; exact of_move a0) <|
            Obls.cons (Obl.plain rfl rfl fun R' w' hw hs hd => by have a0 : R' 33 = u16 := hd 0 _ _ _ rfl rfl rfl rfl rfl; have ra0 := (f_u16.fr hw).eq a0; exact of_strIndex ra0 rfl Tryd.underlying9 e17) <|
            Obls.cons (Obl.plain rfl rfl fun R' w' hw hs hd => by have a0 : R' 34 = .int .u8 (bAt (subL p0 (x8.length : Int) (p0.length : Int)) (0 : Int)) := hd 0 _ _ _ rfl rfl rfl rfl rfl; exact of_eql a0 rfl) <|
            Obls.nil
        intro R w hw hs hF'
        replace h0 : R 0 = v0 := (hs 0 rfl).trans h0
        replace h2 : R 2 = (.pointer (some ⟨b2_0, 0, none⟩)) := (hs 2 rfl).trans h2
        replace h3 : R 3 = .int .i64 y5 := (hs 3 rfl).trans h3
        replace h5 : R 5 = u16 := (hs 5 rfl).trans h5
        have h35 : R 35 = .bool ((bAt (subL p0 (x8.length : Int) (p0.length : Int)) (0 : Int)) == (60 : Int)) := hF' 2 _ _ rfl rfl rfl
        replace f_u16 := f_u16.fr hw
        replace f_v0 := f_v0.fr hw
        replace hO := hO.fr hw
        replace hA := hA.fr hw.size
        replace hF := hF.trans hw
        clear hs hF' hw
        refine seqR_nil ?_
        refine HT.cond ((bAt (subL p0 (x8.length : Int) (p0.length : Int)) (0 : Int)) == (60 : Int)) h35 (fun c18 => ?_) (fun c18 => ?_)
        · have hr := cnd_t c18 hr
          refine HT.seq ?_
          obtain ⟨e19, hr⟩ := ck_some hr
          obtain ⟨x20, q21, hr⟩ := cl_some hr
          refine HT.text (l := ⟨_, true, .raw u16⟩ :: ⟨_, true, .rep eStr A (subL (subL p0 (x8.length : Int) (p0.length : Int)) (1 : Int) ((subL p0 (x8.length : Int) (p0.length : Int)).length : Int))⟩ :: ⟨_, true, .tup2 (.raw (.int .i64 x20.1)) (.raw (.bool x20.2))⟩ :: ⟨_, true, .tup2 (.raw (.int .i64 x20.1)) (.raw (.bool x20.2))⟩ :: ⟨_, true, .raw (.int .i64 x20.1)⟩ :: ⟨_, true, .raw (.bool x20.2)⟩ :: ⟨_, true, .raw (.int .i64 x20.1)⟩ :: ⟨_, true, .raw (.bool x20.2)⟩ :: []) (tl := []) (by kernel_rfl) (by kernel_rfl) (by kernel_rfl) ?_ ?_
          · exact
              Obls.cons (Obl.plain rfl rfl fun R' w' hw hs hd => by have a0 : R' 5 = u16 := (hs 5 rfl).trans h5; exact of_move a0) <|
              Obls.cons (Obl.plain rfl rfl fun R' w' hw hs hd => by have a0 : R' 37 = u16 := hd 0 _ _ _ rfl rfl rfl rfl rfl; have ra0 := (f_u16.fr hw).eq a0; exact of_slice_str_lo ra0 rfl Tryd.underlying9  e19) <|
              Obls.cons (Obl.plain rfl rfl fun R' w' hw hs hd => by have a0 : Rep eStr A w' (R' 38) (subL (subL p0 (x8.length : Int) (p0.length : Int)) (1 : Int) ((subL p0 (x8.length : Int) (p0.length : Int)).length : Int)) := hd 0 _ _ _ rfl rfl rfl rfl rfl; exact of_call Tryd.call19 (M_spec_ParseInt_ok (q21 rfl) (hA.fr hw.size) a0)) <|
              Obls.cons (Obl.plain rfl rfl fun R' w' hw hs hd => by have a0 : Fact.ok (.tup2 (.raw (.int .i64 x20.1)) (.raw (.bool x20.2))) (R' 39) w' := hd 0 _ _ _ rfl rfl rfl rfl rfl; exact of_move a0) <|
              Obls.cons (Obl.plain rfl rfl fun R' w' hw hs hd => by have a0 : Fact.ok (.tup2 (.raw (.int .i64 x20.1)) (.raw (.bool x20.2))) (R' 36) w' := hd 0 _ _ _ rfl rfl rfl rfl rfl; exact of_extract2_0 a0) <|
              Obls.cons (Obl.plain rfl rfl fun R' w' hw hs hd => by have a0 : Fact.ok (.tup2 (.raw (.int .i64 x20.1)) (.raw (.bool x20.2))) (R' 36) w' := hd 0 _ _ _ rfl rfl rfl rfl rfl; exact of_extract2_1 a0) <|
              Obls.cons (Obl.plain rfl rfl fun R' w' hw hs hd => by have a0 : R' 40 = .int .i64 x20.1 := hd 0 _ _ _ rfl rfl rfl rfl rfl; exact of_assign a0) <|
              Obls.cons (Obl.plain rfl rfl fun R' w' hw hs hd => by have a0 : R' 41 = .bool x20.2 := hd 0 _ _ _ rfl rfl rfl rfl rfl; exact of_assign a0) <|
              Obls.nil
          intro R w hw hs hF'
          replace h2 : R 2 = (.pointer (some ⟨b2_0, 0, none⟩)) := (hs 2 rfl).trans h2
          replace h3 : R 3 = .int .i64 y5 := (hs 3 rfl).trans h3
          have h6 : R 6 = .int .i64 x20.1 := hF' 6 _ _ rfl rfl rfl
          replace hO := hO.fr hw
          replace hA := hA.fr hw.size
          replace hF := hF.trans hw
          clear hs hF' hw
          refine seqR_nil ?_
          refine HT.seq ?_
          refine HT.textR [ob (.pointer (some ⟨b2_0, 0, none⟩)) (.box w0.heap.size 36 E_impl_Test y6)] (⟨_, true, [], none, true, fun A => .raw (.int .i64 y5)⟩ :: ⟨_, true, [], none, true, fun A => .raw (.int .i64 x20.1)⟩ :: ⟨_, true, [], none, true, fun A => .rep E_impl_Test A (y5, x20.1, true)⟩ :: ⟨_, true, [0], some (.box w0.heap.size 36 E_impl_Test (y5, x20.1, true)), false, fun A => .any⟩ :: []) (by kernel_rfl) (by kernel_rfl) (Wf.mk' (by kernel_rfl) (UAll.cons ust_raw (UAll.cons ust_raw (UAll.cons ust_rep (UAll.cons ust_any (UAll.nil))))) (by kernel_rfl) (by kernel_rfl)) hO hA ?_ ?_
          · exact
              OblsR.cons (OblR.plain rfl rfl rfl rfl fun A' R' w' ho hd => by have a0 : R' 3 = .int .i64 y5 := (ho.old 3 rfl).trans h3; exact of_move a0) <|
              OblsR.cons (OblR.plain rfl rfl rfl rfl fun A' R' w' ho hd => by have a0 : R' 6 = .int .i64 x20.1 := (ho.old 6 rfl).trans h6; exact of_move a0) <|
              OblsR.cons (OblR.plain rfl rfl rfl rfl fun A' R' w' ho hd => by have a0 : R' 42 = .int .i64 y5 := hd 0 _ _ _ rfl rfl rfl rfl rfl; have a1 : R' 43 = .int .i64 x20.1 := hd 1 _ _ _ rfl rfl rfl rfl rfl; exact of_build_raw (v := .agg #[.int .i64 y5, .int .i64 x20.1, .bool true]) (by simp [execOp, Instr.build, evalR, a0, a1, underlying, Tryd.underlying36, Tryd.zeroValue36, Tryd.sizeOf3, Tryd.sizeOf4, go_sem, Instr.fill]) ⟨_, rfl, rep_pr rep1_int (rep_pr rep1_int rep1_bool)⟩) <|
              OblsR.cons (OblR.took 0 _ _ rfl rfl rfl rfl rfl fun A' R' w' ho hd u hok hav hin hop hds => by have a0 : R' 2 = (.pointer (some ⟨b2_0, 0, none⟩)) := (ho.old 2 rfl).trans h2; have a1 : Rep E_impl_Test A' w' (R' 44) (y5, x20.1, true) := hd 0 _ _ _ rfl rfl rfl rfl rfl; exact took_store a1 a0 (hin _ rfl) hok hav (FldS.id _) Tryd.sizeOf36 rfl) <|
              OblsR.nil
          intro done ρ σ A R w hdn hI
          replace h2 : R 2 = (.pointer (some ⟨b2_0, 0, none⟩)) := (hI.reg rfl).trans h2
          have z22 := hI.inivR 0 rfl
          have z23 := (hI.opnR hdn 4 3 rfl rfl rfl rfl rfl).trans z22
          replace hAA := hI.low' hAA hA0 (hO.ge (⟨rfl, trivial⟩))
          replace hF : Fr w0 w := hF.tr hI.ch (hO.ge (⟨rfl, trivial⟩))
          replace hO : IniOK [ob (.pointer (some ⟨b2_0, 0, none⟩)) (.box w0.heap.size 36 E_impl_Test (y5, x20.1, true))] A w := hI.left hdn [(4, ob (.pointer (some ⟨b2_0, 0, none⟩)) (.box w0.heap.size 36 E_impl_Test (y5, x20.1, true)))] ⟨rfl, rfl, z23, rfl, rfl, trivial⟩
          replace hA := hI.avok
          clear hI
          refine HT.ret ?_
          obtain rfl := Option.some.inj hr
          have hr := hr0
          replace hr : some _ = some _ := hr
          obtain rfl := Option.some.inj hr
          obtain ⟨v_2, e_2, p_2⟩ := res_cell (hO.ok 0 _ rfl).1 h2 Tryd.isAgg36 Tryd.sizeOf36 hAA
          exact ⟨.inr rfl, [v_2], ⟨e_2, trivial⟩, p_2, hF⟩
        · have hr := cnd_f c18 hr
          refine HT.skip ?_
          refine HT.seq ?_
          obtain ⟨e24, hr⟩ := ck_some hr
          obtain ⟨x25, q26, hr⟩ := bd_some hr
          refine HT.text (l := ⟨_, true, .raw u16⟩ :: ⟨_, true, .raw (.int .i64 ((subL p0 (x8.length : Int) (p0.length : Int)).length : Int))⟩ :: ⟨_, true, .raw (.bool (decide ((2 : Int) < ((subL p0 (x8.length : Int) (p0.length : Int)).length : Int))))⟩ :: ⟨_, true, .raw (.bool (decide ((2 : Int) < ((subL p0 (x8.length : Int) (p0.length : Int)).length : Int))))⟩ :: ⟨_, (true && ((decide ((2 : Int) < ((subL p0 (x8.length : Int) (p0.length : Int)).length : Int))) == true)), .raw u16⟩ :: ⟨_, (true && ((decide ((2 : Int) < ((subL p0 (x8.length : Int) (p0.length : Int)).length : Int))) == true)), .rep eStr A (subL (subL p0 (x8.length : Int) (p0.length : Int)) 0 (2 : Int))⟩ :: ⟨_, (true && ((decide ((2 : Int) < ((subL p0 (x8.length : Int) (p0.length : Int)).length : Int))) == true)), .raw (.bool ((subL (subL p0 (x8.length : Int) (p0.length : Int)) 0 (2 : Int)) == ([62, 61] : List UInt8)))⟩ :: ⟨_, true, .raw (.bool x25)⟩ :: []) (tl := []) (by kernel_rfl) (by kernel_rfl) (by kernel_rfl) ?_ ?_
          · exact
              Obls.cons (Obl.plain rfl rfl fun R' w' hw hs hd => by have a0 : R' 5 = u16 := (hs 5 rfl).trans h5; exact of_move a0) <|
              Obls.cons (Obl.plain rfl rfl fun R' w' hw hs hd => by have a0 : R' 45 = u16 := hd 0 _ _ _ rfl rfl rfl rfl rfl; have ra0 := (f_u16.fr hw).eq a0; exact of_len_str ra0 Tryd.underlying9) <|
              Obls.cons (Obl.plain rfl rfl fun R' w' hw hs hd => by have a0 : R' 46 = .int .i64 ((subL p0 (x8.length : Int) (p0.length : Int)).length : Int) := hd 0 _ _ _ rfl rfl rfl rfl rfl; exact of_gtr a0 rfl) <|
              Obls.cons (Obl.plain rfl rfl fun R' w' hw hs hd => by have a0 : R' 47 = .bool (decide ((2 : Int) < ((subL p0 (x8.length : Int) (p0.length : Int)).length : Int))) := hd 0 _ _ _ rfl rfl rfl rfl rfl; exact of_move a0) <|
              Obls.cons (Obl.grd 3 true _ _ _ rfl rfl rfl rfl rfl (by kernel_rfl) fun hg R' w' hw hs hd => by have a0 : R' 5 = u16 := (hs 5 rfl).trans h5; exact of_move a0) <|
              Obls.cons (Obl.grd 3 true _ _ _ rfl rfl rfl rfl rfl (by kernel_rfl) fun hg R' w' hw hs hd => by have a0 : R' 49 = u16 := hd 0 _ _ _ rfl rfl rfl rfl hg; have ra0 := (f_u16.fr hw).eq a0; exact of_slice_str_hi ra0 rfl Tryd.underlying9  (gd e24 hg)) <|
              Obls.cons (Obl.grd 3 true _ _ _ rfl rfl rfl rfl rfl (by kernel_rfl) fun hg R' w' hw hs hd => by have a0 : Rep eStr A w' (R' 50) (subL (subL p0 (x8.length : Int) (p0.length : Int)) 0 (2 : Int)) := hd 0 _ _ _ rfl rfl rfl rfl hg; exact of_seql a0 ⟨_, rfl, ⟨_, rfl, rfl, by decide⟩⟩) <|
              Obls.cons (Obl.plain rfl rfl fun R' w' hw hs hd => by have a0 : R' 48 = .bool (decide ((2 : Int) < ((subL p0 (x8.length : Int) (p0.length : Int)).length : Int))) := hd 0 _ _ _ rfl rfl rfl rfl rfl; exact of_pick (decide ((2 : Int) < ((subL p0 (x8.length : Int) (p0.length : Int)).length : Int))) a0 (fun hc => by have a1 : R' 51 = .bool ((subL (subL p0 (x8.length : Int) (p0.length : Int)) 0 (2 : Int)) == ([62, 61] : List UInt8)) := hd 1 _ _ _ rfl rfl rfl rfl (g_and rfl (beq_of hc)); show _ = Value.bool x25; rw [q26, hc]; exact a1) (fun hc => by show _ = Value.bool x25; rw [q26, hc]; exact rfl)) <|
              Obls.nil
          intro R w hw hs hF'
          replace h0 : R 0 = v0 := (hs 0 rfl).trans h0
          replace h2 : R 2 = (.pointer (some ⟨b2_0, 0, none⟩)) := (hs 2 rfl).trans h2
          replace h3 : R 3 = .int .i64 y5 := (hs 3 rfl).trans h3
          replace h5 : R 5 = u16 := (hs 5 rfl).trans h5
          have h52 : R 52 = .bool x25 := hF' 7 _ _ rfl rfl rfl
          replace f_u16 := f_u16.fr hw
          replace f_v0 := f_v0.fr hw
          replace hO := hO.fr hw
          replace hA := hA.fr hw.size
          replace hF := hF.trans hw
          clear hs hF' hw
          refine seqR_nil ?_
          refine HT.cond x25 h52 (fun c27 => ?_) (fun c27 => ?_)
          · have hr := cnd_t c27 hr
            refine HT.seq ?_
            obtain ⟨e28, hr⟩ := ck_some hr
            obtain ⟨x29, q30, hr⟩ := cl_some hr
            refine HT.text (l := ⟨_, true, .raw u16⟩ :: ⟨_, true, .rep eStr A (subL (subL p0 (x8.length : Int) (p0.length : Int)) (2 : Int) ((subL p0 (x8.length : Int) (p0.length : Int)).length : Int))⟩ :: ⟨_, true, .tup2 (.raw (.int .i64 x29.1)) (.raw (.bool x29.2))⟩ :: ⟨_, true, .tup2 (.raw (.int .i64 x29.1)) (.raw (.bool x29.2))⟩ :: ⟨_, true, .raw (.int .i64 x29.1)⟩ :: ⟨_, true, .raw (.bool x29.2)⟩ :: ⟨_, true, .raw (.int .i64 x29.1)⟩ :: ⟨_, true, .raw (.bool x29.2)⟩ :: []) (tl := []) (by kernel_rfl) (by kernel_rfl) (by kernel_rfl) ?_ ?_
            · exact
                Obls.cons (Obl.plain rfl rfl fun R' w' hw hs hd => by have a0 : R' 5 = u16 := (hs 5 rfl).trans h5; exact of_move a0) <|
                Obls.cons (Obl.plain rfl rfl fun R' w' hw hs hd => by have a0 : R' 54 = u16 := hd 0 _ _ _ rfl rfl rfl rfl rfl; have ra0 := (f_u16.fr hw).eq a0; exact of_slice_str_lo ra0 rfl Tryd.underlying9  e28) <|
                Obls.cons (Obl.plain rfl rfl fun R' w' hw hs hd => by have a0 : Rep eStr A w' (R' 55) (subL (subL p0 (x8.length : Int) (p0.length : Int)) (2 : Int) ((subL p0 (x8.length : Int) (p0.length : Int)).length : Int)) := hd 0 _ _ _ rfl rfl rfl rfl rfl; exact of_call Tryd.call19 (M_spec_ParseInt_ok (q30 rfl) (hA.fr hw.size) a0)) <|
                Obls.cons (Obl.plain rfl rfl fun R' w' hw hs hd => by have a0 : Fact.ok (.tup2 (.raw (.int .i64 x29.1)) (.raw (.bool x29.2))) (R' 56) w' := hd 0 _ _ _ rfl rfl rfl rfl rfl; exact of_move a0) <|
                Obls.cons (Obl.plain rfl rfl fun R' w' hw hs hd => by have a0 : Fact.ok (.tup2 (.raw (.int .i64 x29.1)) (.raw (.bool x29.2))) (R' 53) w' := hd 0 _ _ _ rfl rfl rfl rfl rfl; exact of_extract2_0 a0) <|
                Obls.cons (Obl.plain rfl rfl fun R' w' hw hs hd => by have a0 : Fact.ok (.tup2 (.raw (.int .i64 x29.1)) (.raw (.bool x29.2))) (R' 53) w' := hd 0 _ _ _ rfl rfl rfl rfl rfl; exact of_extract2_1 a0) <|
                Obls.cons (Obl.plain rfl rfl fun R' w' hw hs hd => by have a0 : R' 57 = .int .i64 x29.1 := hd 0 _ _ _ rfl rfl rfl rfl rfl; exact of_assign a0) <|
                Obls.cons (Obl.plain rfl rfl fun R' w' hw hs hd => by have a0 : R' 58 = .bool x29.2 := hd 0 _ _ _ rfl rfl rfl rfl rfl; exact of_assign a0) <|
                Obls.nil
            intro R w hw hs hF'
            replace h2 : R 2 = (.pointer (some ⟨b2_0, 0, none⟩)) := (hs 2 rfl).trans h2
            replace h3 : R 3 = .int .i64 y5 := (hs 3 rfl).trans h3
            have h8 : R 8 = .int .i64 x29.1 := hF' 6 _ _ rfl rfl rfl
            replace hO := hO.fr hw
            replace hA := hA.fr hw.size
            replace hF := hF.trans hw
            clear hs hF' hw
            refine seqR_nil ?_
            refine HT.seq ?_
            refine HT.textR [ob (.pointer (some ⟨b2_0, 0, none⟩)) (.box w0.heap.size 36 E_impl_Test y6)] (⟨_, true, [], none, true, fun A => .raw (.int .i64 y5)⟩ :: ⟨_, true, [], none, true, fun A => .raw (.int .i64 x29.1)⟩ :: ⟨_, true, [], none, true, fun A => .rep E_impl_Test A (y5, x29.1, false)⟩ :: ⟨_, true, [0], some (.box w0.heap.size 36 E_impl_Test (y5, x29.1, false)), false, fun A => .any⟩ :: []) (by kernel_rfl) (by kernel_rfl) (Wf.mk' (by kernel_rfl) (UAll.cons ust_raw (UAll.cons ust_raw (UAll.cons ust_rep (UAll.cons ust_any (UAll.nil))))) (by kernel_rfl) (by kernel_rfl)) hO hA ?_ ?_
            · exact
                OblsR.cons (OblR.plain rfl rfl rfl rfl fun A' R' w' ho hd => by have a0 : R' 3 = .int .i64 y5 := (ho.old 3 rfl).trans h3; exact of_move a0) <|
                OblsR.cons (OblR.plain rfl rfl rfl rfl fun A' R' w' ho hd => by have a0 : R' 8 = .int .i64 x29.1 := (ho.old 8 rfl).trans h8; exact of_move a0) <|
                OblsR.cons (OblR.plain rfl rfl rfl rfl fun A' R' w' ho hd => by have a0 : R' 59 = .int .i64 y5 := hd 0 _ _ _ rfl rfl rfl rfl rfl; have a1 : R' 60 = .int .i64 x29.1 := hd 1 _ _ _ rfl rfl rfl rfl rfl; exact of_build_raw (v := .agg #[.int .i64 y5, .int .i64 x29.1, .bool false]) (by simp [execOp, Instr.build, evalR, a0, a1, underlying, Tryd.underlying36, Tryd.zeroValue36, Tryd.sizeOf3, Tryd.sizeOf4, go_sem, Instr.fill]) ⟨_, rfl, rep_pr rep1_int (rep_pr rep1_int rep1_bool)⟩) <|
                OblsR.cons (OblR.took 0 _ _ rfl rfl rfl rfl rfl fun A' R' w' ho hd u hok hav hin hop hds => by have a0 : R' 2 = (.pointer (some ⟨b2_0, 0, none⟩)) := (ho.old 2 rfl).trans h2; have a1 : Rep E_impl_Test A' w' (R' 61) (y5, x29.1, false) := hd 0 _ _ _ rfl rfl rfl rfl rfl; exact took_store a1 a0 (hin _ rfl) hok hav (FldS.id _) Tryd.sizeOf36 rfl) <|
                OblsR.nil
            intro done ρ σ A R w hdn hI
            replace h2 : R 2 = (.pointer (some ⟨b2_0, 0, none⟩)) := (hI.reg rfl).trans h2
            have z31 := hI.inivR 0 rfl
            have z32 := (hI.opnR hdn 4 3 rfl rfl rfl rfl rfl).trans z31
            replace hAA := hI.low' hAA hA0 (hO.ge (⟨rfl, trivial⟩))
            replace hF : Fr w0 w := hF.tr hI.ch (hO.ge (⟨rfl, trivial⟩))
            replace hO : IniOK [ob (.pointer (some ⟨b2_0, 0, none⟩)) (.box w0.heap.size 36 E_impl_Test (y5, x29.1, false))] A w := hI.left hdn [(4, ob (.pointer (some ⟨b2_0, 0, none⟩)) (.box w0.heap.size 36 E_impl_Test (y5, x29.1, false)))] ⟨rfl, rfl, z32, rfl, rfl, trivial⟩
            replace hA := hI.avok
            clear hI
            refine HT.ret ?_
            obtain rfl := Option.some.inj hr
            have hr := hr0
            replace hr : some _ = some _ := hr
            obtain rfl := Option.some.inj hr
            obtain ⟨v_2, e_2, p_2⟩ := res_cell (hO.ok 0 _ rfl).1 h2 Tryd.isAgg36 Tryd.sizeOf36 hAA
            exact ⟨.inr rfl, [v_2], ⟨e_2, trivial⟩, p_2, hF⟩
          · have hr := cnd_f c27 hr
            refine HT.skip ?_
            obtain ⟨e33, hr⟩ := ck_some hr
            refine HT.text (l := ⟨_, true, .raw (.int .i64 y5)⟩ :: ⟨_, true, .raw (.int .i64 (y5 + (1 : Int)))⟩ :: ⟨_, true, .raw (.int .i64 (y5 + (1 : Int)))⟩ :: []) (tl := []) (by kernel_rfl) (by kernel_rfl) (by kernel_rfl) ?_ ?_
            · exact
                Obls.cons (Obl.plain rfl rfl fun R' w' hw hs hd => by have a0 : R' 3 = .int .i64 y5 := (hs 3 rfl).trans h3; exact of_move a0) <|
                Obls.cons (Obl.plain rfl rfl fun R' w' hw hs hd => by have a0 : R' 12 = .int .i64 y5 := hd 0 _ _ _ rfl rfl rfl rfl rfl; exact of_add a0 rfl e33) <|
                Obls.cons (Obl.plain rfl rfl fun R' w' hw hs hd => by have a0 : R' 13 = .int .i64 (y5 + (1 : Int)) := hd 0 _ _ _ rfl rfl rfl rfl rfl; exact of_assign a0) <|
                Obls.nil
            intro R w hw hs hF'
            replace h0 : R 0 = v0 := (hs 0 rfl).trans h0
            replace h2 : R 2 = (.pointer (some ⟨b2_0, 0, none⟩)) := (hs 2 rfl).trans h2
            have h3 : R 3 = .int .i64 (y5 + (1 : Int)) := hF' 2 _ _ rfl rfl rfl
            replace f_v0 := f_v0.fr hw
            replace hO := hO.fr hw
            replace hA := hA.fr hw.size
            replace hF := hF.trans hw
            clear hs hF' hw
            refine seqR_nil ?_
            exact Exists.intro k (And.intro (Nat.lt_succ_self k) ⟨_, _, _, hr, hA, hF, hAA, hO, h0, h2, h3, f_v0⟩)
      · have hr := cnd_f c14 hr
        refine HT.skip ?_
        obtain ⟨e34, hr⟩ := ck_some hr
        refine HT.text (l := ⟨_, true, .raw (.int .i64 y5)⟩ :: ⟨_, true, .raw (.int .i64 (y5 + (1 : Int)))⟩ :: ⟨_, true, .raw (.int .i64 (y5 + (1 : Int)))⟩ :: []) (tl := []) (by kernel_rfl) (by kernel_rfl) (by kernel_rfl) ?_ ?_
        · exact
            Obls.cons (Obl.plain rfl rfl fun R' w' hw hs hd => by have a0 : R' 3 = .int .i64 y5 := (hs 3 rfl).trans h3; exact of_move a0) <|
            Obls.cons (Obl.plain rfl rfl fun R' w' hw hs hd => by have a0 : R' 12 = .int .i64 y5 := hd 0 _ _ _ rfl rfl rfl rfl rfl; exact of_add a0 rfl e34) <|
            Obls.cons (Obl.plain rfl rfl fun R' w' hw hs hd => by have a0 : R' 13 = .int .i64 (y5 + (1 : Int)) := hd 0 _ _ _ rfl rfl rfl rfl rfl; exact of_assign a0) <|
            Obls.nil
        intro R w hw hs hF'
        replace h0 : R 0 = v0 := (hs 0 rfl).trans h0
        replace h2 : R 2 = (.pointer (some ⟨b2_0, 0, none⟩)) := (hs 2 rfl).trans h2
        have h3 : R 3 = .int .i64 (y5 + (1 : Int)) := hF' 2 _ _ rfl rfl rfl
        replace f_v0 := f_v0.fr hw
        replace hO := hO.fr hw
        replace hA := hA.fr hw.size
        replace hF := hF.trans hw
        clear hs hF' hw
        refine seqR_nil ?_
        exact Exists.intro k (And.intro (Nat.lt_succ_self k) ⟨_, _, _, hr, hA, hF, hAA, hO, h0, h2, h3, f_v0⟩)
    · have hr := cnd_f c7 hr
      refine HT.exit ?_
      obtain rfl := Option.some.inj hr
      exact Exists.intro _ ⟨_, rfl, hA, hF, hAA, hO, h2⟩
  rintro R w ⟨A, s4, rfl, hA, hF, hAA, hO, h2⟩
  have hr := exM_go hr
  refine HT.seq ?_
  refine HT.textR [ob (.pointer (some ⟨b2_0, 0, none⟩)) (.box w0.heap.size 36 E_impl_Test s4)] (⟨_, true, [], none, true, fun A => .rep E_impl_Test A ((0 : Int), (0 : Int), false)⟩ :: ⟨_, true, [0], some (.box w0.heap.size 36 E_impl_Test ((0 : Int), (0 : Int), false)), false, fun A => .any⟩ :: []) (by kernel_rfl) (by kernel_rfl) (Wf.mk' (by kernel_rfl) (UAll.cons ust_rep (UAll.cons ust_any (UAll.nil))) (by kernel_rfl) (by kernel_rfl)) hO hA ?_ ?_
  · exact
      OblsR.cons (OblR.plain rfl rfl rfl rfl fun A' R' w' ho hd => by exact of_build_raw (v := .agg #[.int .i64 0, .int .i64 0, .bool false]) (by simp [execOp, Instr.build, evalR, underlying, Tryd.underlying36, Tryd.zeroValue36, Tryd.sizeOf3, Tryd.sizeOf4, go_sem, Instr.fill]) ⟨_, rfl, rep_pr rep1_int (rep_pr rep1_int rep1_bool)⟩) <|
      OblsR.cons (OblR.took 0 _ _ rfl rfl rfl rfl rfl fun A' R' w' ho hd u hok hav hin hop hds => by have a0 : R' 2 = (.pointer (some ⟨b2_0, 0, none⟩)) := (ho.old 2 rfl).trans h2; have a1 : Rep E_impl_Test A' w' (R' 62) ((0 : Int), (0 : Int), false) := hd 0 _ _ _ rfl rfl rfl rfl rfl; exact took_store a1 a0 (hin _ rfl) hok hav (FldS.id _) Tryd.sizeOf36 rfl) <|
      OblsR.nil
  intro done ρ σ A R w hdn hI
  replace h2 : R 2 = (.pointer (some ⟨b2_0, 0, none⟩)) := (hI.reg rfl).trans h2
  have z35 := hI.inivR 0 rfl
  have z36 := (hI.opnR hdn 2 1 rfl rfl rfl rfl rfl).trans z35
  replace hAA := hI.low' hAA hA0 (hO.ge (⟨rfl, trivial⟩))
  replace hF : Fr w0 w := hF.tr hI.ch (hO.ge (⟨rfl, trivial⟩))
  replace hO : IniOK [ob (.pointer (some ⟨b2_0, 0, none⟩)) (.box w0.heap.size 36 E_impl_Test ((0 : Int), (0 : Int), false))] A w := hI.left hdn [(2, ob (.pointer (some ⟨b2_0, 0, none⟩)) (.box w0.heap.size 36 E_impl_Test ((0 : Int), (0 : Int), false)))] ⟨rfl, rfl, z36, rfl, rfl, trivial⟩
  replace hA := hI.avok
  clear hI
  refine HT.ret ?_
  obtain rfl := Option.some.inj hr
  obtain ⟨v_2, e_2, p_2⟩ := res_cell (hO.ok 0 _ rfl).1 h2 Tryd.isAgg36 Tryd.sizeOf36 hAA
  exact ⟨.inr rfl, [v_2], ⟨e_2, trivial⟩, p_2, hF⟩
def M_spec_IsValidRules_L1 (fu : Nat) (p0 : T_impl_RuleSet) (y5 : Int) : Nat → Int → Option (Ex Bool Unit)
  | 0, _ => none
  | k + 1, y12 =>
    bif (decide (y12 < ((gtD p0 y5).length : Int))) then (
      ck (inR y12 (gtD p0 y5).length) <|
      cl true (M_spec_l1In fu ((gtD (gtD p0 y5) y12).1) (0 : Int) (5 : Int)) fun x15 =>
      ck (!(true && ((!x15) == false)) || inR y12 (gtD p0 y5).length) <|
      cl (true && ((!x15) == false)) (M_spec_l1In fu ((gtD (gtD p0 y5) y12).2.1) (1 : Int) (1000 : Int)) fun x18 =>
      bd ((!x15) || (!x18)) fun x20 =>
      ck (!((true && (x20 == false)) && ((decide ((0 : Int) < y12)) == true)) || i64B (y12 - (1 : Int))) <|
      ck (!((true && (x20 == false)) && ((decide ((0 : Int) < y12)) == true)) || inR (y12 - (1 : Int)) (gtD p0 y5).length) <|
      ck (!((true && (x20 == false)) && ((decide ((0 : Int) < y12)) == true)) || inR y12 (gtD p0 y5).length) <|
      bd ((decide ((0 : Int) < y12)) && (decide (((gtD (gtD p0 y5) y12).1) ≤ ((gtD (gtD p0 y5) (y12 - (1 : Int))).1)))) fun x25 =>
      bd (x20 || x25) fun x27 =>
      bif x27 then (
        some (Ex.ret false)
      ) else (
        ck (i64B (y12 + (1 : Int))) <|
        M_spec_IsValidRules_L1 fu p0 y5 k (y12 + (1 : Int))
      )
    ) else (
      some (Ex.go ())
    )
def M_spec_IsValidRules_L0 (fu : Nat) (p0 : T_impl_RuleSet) : Nat → Int → Option (Ex Bool Unit)
  | 0, _ => none
  | k + 1, y5 =>
    bif (decide (y5 < (p0.length : Int))) then (
      ck (inR y5 p0.length) <|
      cl true (M_spec_IsValidRules_L1 fu p0 y5 fu (0 : Int)) fun rl9 =>
      exM rl9 (fun r => some (Ex.ret r)) fun s11 =>
      cl true (M_spec_l1In fu ((gtD p0 y5).length : Int) (1 : Int) (3 : Int)) fun x31 =>
      bif (!x31) then (
        some (Ex.ret false)
      ) else (
        ck (i64B (y5 + (1 : Int))) <|
        M_spec_IsValidRules_L0 fu p0 k (y5 + (1 : Int))
      )
    ) else (
      some (Ex.go ())
    )
def M_spec_IsValidRules (fu : Nat) (p0 : T_impl_RuleSet) : Option Bool :=
  cl true (M_spec_IsValidRules_L0 fu p0 fu (0 : Int)) fun rl2 =>
  exM rl2 (fun r => some r) fun s4 =>
  cl true (M_spec_l1In fu (p0.length : Int) (1 : Int) (3 : Int)) fun x35 =>
  some x35
set_option maxRecDepth 100000 in
set_option maxHeartbeats 4000000 in
theorem M_spec_IsValidRules_ok {fu : Nat} {A0 : Av} {p0 : T_impl_RuleSet} {r : Bool} (hr : M_spec_IsValidRules fu p0 = some r) {w : World} {v0 : Value} (hA : AvOK A0 w) (h0 : Rep E_impl_RuleSet A0 w v0 p0) :
    Calls Tryd.prog 20 #[v0] w fun e w' => ∃ v, e = .returned v ∧ (v = .bool r ∧ Fr w w') := by
  unfold M_spec_IsValidRules at hr
  obtain ⟨w0, hw0⟩ : ∃ w0, w0 = w := ⟨_, rfl⟩
  have hF : Fr w0 w := hw0 ▸ Fr.refl _
  have hA0 : ∀ b o, A0 b o → b < w0.heap.size := fun b o h => hw0 ▸ hA b o h
  have hA00 : AvOK A0 w0 := hA0
  rw [show Fr w = Fr w0 from hw0 ▸ rfl]
  clear hw0
  obtain ⟨A, hAe⟩ : ∃ A, A = A0 := ⟨_, rfl⟩
  have hAA : ∀ b o, A0 b o → A b o := fun b o h => hAe ▸ h
  replace hA : AvOK A w := hAe ▸ hA
  have hO : IniOK [] A w := IniOK.nil
  refine calls_of_HT2 [.tmp 2] Tryd.func20 Tryd.ntmps20 (by decide) rfl rfl (Nat.le_of_ble_eq_true rfl) ?_
  intro R hR
  have f_v0 : Rep E_impl_RuleSet A w v0 p0 := hAe ▸ h0
  replace h0 : R 0 = v0 := hR 0 _ rfl
  clear hR hAe
  refine HT.seq ?_
  refine HT.textR [] (⟨_, true, [], some (.box w0.heap.size 24 E_impl_RuleSet p0), true, fun A => .any⟩ :: ⟨_, true, [], none, true, fun A => .raw (.bool false)⟩ :: []) (by kernel_rfl) (by kernel_rfl) (Wf.mk' (by kernel_rfl) (UAll.cons ust_any (UAll.cons ust_raw (UAll.nil))) (by kernel_rfl) (by kernel_rfl)) hO hA ?_ ?_
  · exact
      OblsR.cons (OblR.made _ rfl rfl rfl rfl fun A' R' w' ho hd => by have a0 : R' 0 = v0 := (ho.old 0 rfl).trans h0; have ra0 := (f_v0.stp ho.stp).eq a0; exact made_box ra0 (Nat.le_trans hF.size ho.ch.size)) <|
      OblsR.cons (OblR.plain rfl rfl rfl rfl fun A' R' w' ho hd => by exact of_assign rfl) <|
      OblsR.nil
  intro done ρ σ A R w hdn hI
  obtain ⟨b1_0, e_b1_0⟩ := hI.boxv hdn 0 rfl rfl
  have h1 : R 1 = (.pointer (some ⟨b1_0, 0, none⟩)) := (hI.opvR hdn 0 0 rfl rfl rfl rfl rfl).symm.trans e_b1_0
  replace hAA := hI.low' hAA hA0 (hO.ge (trivial))
  replace hF : Fr w0 w := hF.tr hI.ch (hO.ge (trivial))
  replace hO : IniOK [ob (.pointer (some ⟨b1_0, 0, none⟩)) (.box w0.heap.size 24 E_impl_RuleSet p0)] A w := hI.left hdn [(0, ob (.pointer (some ⟨b1_0, 0, none⟩)) (.box w0.heap.size 24 E_impl_RuleSet p0))] ⟨rfl, rfl, e_b1_0, rfl, rfl, trivial⟩
  replace hA := hI.avok
  clear hI
  refine HT.seq ?_
  refine HT.seq ?_
  refine HT.text (l := ⟨_, true, .raw (.int .i64 (0 : Int))⟩ :: []) (tl := []) (by kernel_rfl) (by kernel_rfl) (by kernel_rfl) ?_ ?_
  · exact
      Obls.cons (Obl.plain rfl rfl fun R' w' hw hs hd => by exact of_assign rfl) <|
      Obls.nil
  intro R w hw hs hF'
  replace h1 : R 1 = (.pointer (some ⟨b1_0, 0, none⟩)) := (hs 1 rfl).trans h1
  have h3 : R 3 = .int .i64 (0 : Int) := hF' 0 _ _ rfl rfl rfl
  replace hO := hO.fr hw
  replace hA := hA.fr hw.size
  replace hF := hF.trans hw
  clear hs hF' hw
  refine seqR_nil ?_
  obtain ⟨rl2, q3, hr⟩ := cl_some hr
  replace q3 := q3 rfl
  refine HT.cut0 (fun R w => ∃ A : Av, ∃ (s4 : Unit), rl2 = Ex.go s4 ∧ AvOK A w ∧ Fr w0 w ∧ (∀ b o, A0 b o → A b o) ∧ IniOK [ob (.pointer (some ⟨b1_0, 0, none⟩)) (.box w0.heap.size 24 E_impl_RuleSet p0)] A w ∧ R 1 = (.pointer (some ⟨b1_0, 0, none⟩))) ?_ ?_
  · refine HT.block ?_
    refine HT.loop (fun k R w => ∃ A : Av, ∃ (y5 : Int), M_spec_IsValidRules_L0 fu p0 k y5 = some rl2 ∧ AvOK A w ∧ Fr w0 w ∧ (∀ b o, A0 b o → A b o) ∧ IniOK [ob (.pointer (some ⟨b1_0, 0, none⟩)) (.box w0.heap.size 24 E_impl_RuleSet p0)] A w ∧ R 1 = (.pointer (some ⟨b1_0, 0, none⟩)) ∧ R 3 = .int .i64 y5) fu ⟨_, _, q3, hA, hF, hAA, hO, h1, h3⟩ ?_
    have hr0 := hr; clear hr q3
    rintro k R w ⟨A, y5, hr, hA, hF, hAA, hO, h1, h3⟩
    rcases k with _ | k
    · cases (show none = some _ from hr)
    rw [M_spec_IsValidRules_L0] at hr
    refine HT.seq ?_
    refine HT.seq ?_
    refine HT.text (l := ⟨_, true, .raw (.int .i64 y5)⟩ :: ⟨_, true, .raw (.pointer (some ⟨b1_0, 0, none⟩))⟩ :: ⟨_, true, .rep (eSl E_impl_Rule) A p0⟩ :: ⟨_, true, .raw (.int .i64 (p0.length : Int))⟩ :: ⟨_, true, .raw (.bool (decide (y5 < (p0.length : Int))))⟩ :: []) (tl := []) (by kernel_rfl) (by kernel_rfl) (by kernel_rfl) ?_ ?_
    · exact
        Obls.cons (Obl.plain rfl rfl fun R' w' hw hs hd => by have a0 : R' 3 = .int .i64 y5 := (hs 3 rfl).trans h3; exact of_move a0) <|
        Obls.cons (Obl.plain rfl rfl fun R' w' hw hs hd => by have a0 : R' 1 = (.pointer (some ⟨b1_0, 0, none⟩)) := (hs 1 rfl).trans h1; exact of_fieldAddr_raw a0 ff_24_0 Tryd.sizeOf22 (by decide) rfl) <|
        Obls.cons (Obl.plain rfl rfl fun R' w' hw hs hd => by have a0 : R' 7 = (.pointer (some ⟨b1_0, 0, none⟩)) := hd 0 _ _ _ rfl rfl rfl rfl rfl; exact (of_load_box ((hO.fr hw).ok 0 _ rfl).1 a0 fl_impl_RuleSet_0 rfl Tryd.isAgg22 Tryd.sizeOf22)) <|
        Obls.cons (Obl.plain rfl rfl fun R' w' hw hs hd => by have a0 : Rep (eSl E_impl_Rule) A w' (R' 8) p0 := hd 0 _ _ _ rfl rfl rfl rfl rfl; exact of_len_sl (aT := #[]) a0 Tryd.underlying22) <|
        Obls.cons (Obl.plain rfl rfl fun R' w' hw hs hd => by have a0 : R' 6 = .int .i64 y5 := hd 0 _ _ _ rfl rfl rfl rfl rfl; have a1 : R' 9 = .int .i64 (p0.length : Int) := hd 1 _ _ _ rfl rfl rfl rfl rfl; exact of_lss a0 a1) <|
        Obls.nil
    intro R w hw hs hF'
    replace h1 : R 1 = (.pointer (some ⟨b1_0, 0, none⟩)) := (hs 1 rfl).trans h1
    replace h3 : R 3 = .int .i64 y5 := (hs 3 rfl).trans h3
    have h10 : R 10 = .bool (decide (y5 < (p0.length : Int))) := hF' 4 _ _ rfl rfl rfl
    replace hO := hO.fr hw
    replace hA := hA.fr hw.size
    replace hF := hF.trans hw
    clear hs hF' hw
    refine seqR_nil ?_
    refine HT.cond (decide (y5 < (p0.length : Int))) h10 (fun c6 => ?_) (fun c6 => ?_)
    · have hr := cnd_t c6 hr
      refine HT.skip ?_
      refine HT.seq ?_
      refine HT.block ?_
      refine HT.seq ?_
      obtain ⟨e7, hr⟩ := ck_some hr
      refine HT.text (l := ⟨_, true, .raw (.pointer (some ⟨b1_0, 0, none⟩))⟩ :: ⟨_, true, .rep (eSl E_impl_Rule) A p0⟩ :: ⟨_, true, .raw (.int .i64 y5)⟩ :: ⟨_, true, .qtr E_impl_Rule A (gtD p0 y5)⟩ :: ⟨_, true, .qtr (eSl E_impl_Test) A (gtD p0 y5)⟩ :: ⟨_, true, .rep (eSl E_impl_Test) A (gtD p0 y5)⟩ :: ⟨_, true, .rep (eSl E_impl_Test) A (gtD p0 y5)⟩ :: []) (tl := []) (by kernel_rfl) (by kernel_rfl) (by kernel_rfl) ?_ ?_
      · exact
          Obls.cons (Obl.plain rfl rfl fun R' w' hw hs hd => by have a0 : R' 1 = (.pointer (some ⟨b1_0, 0, none⟩)) := (hs 1 rfl).trans h1; exact of_fieldAddr_raw a0 ff_24_0 Tryd.sizeOf22 (by decide) rfl) <|
          Obls.cons (Obl.plain rfl rfl fun R' w' hw hs hd => by have a0 : R' 13 = (.pointer (some ⟨b1_0, 0, none⟩)) := hd 0 _ _ _ rfl rfl rfl rfl rfl; exact (of_load_box ((hO.fr hw).ok 0 _ rfl).1 a0 fl_impl_RuleSet_0 rfl Tryd.isAgg22 Tryd.sizeOf22)) <|
          Obls.cons (Obl.plain rfl rfl fun R' w' hw hs hd => by have a0 : R' 3 = .int .i64 y5 := (hs 3 rfl).trans h3; exact of_move a0) <|
          Obls.cons (Obl.plain rfl rfl fun R' w' hw hs hd => by have a0 : Rep (eSl E_impl_Rule) A w' (R' 14) p0 := hd 0 _ _ _ rfl rfl rfl rfl rfl; have a1 : R' 15 = .int .i64 y5 := hd 1 _ _ _ rfl rfl rfl rfl rfl; exact of_indexAddr a0 a1 Tryd.underlying22 Tryd.sizeOf32 e7) <|
          Obls.cons (Obl.plain rfl rfl fun R' w' hw hs hd => by have a0 : QRep E_impl_Rule A w' (R' 16) (gtD p0 y5) := hd 0 _ _ _ rfl rfl rfl rfl rfl; exact of_fieldAddr_q a0 ff_32_0 Tryd.sizeOf30 (by decide) fl_impl_Rule_0 rfl) <|
          Obls.cons (Obl.plain rfl rfl fun R' w' hw hs hd => by have a0 : QRep (eSl E_impl_Test) A w' (R' 17) (gtD p0 y5) := hd 0 _ _ _ rfl rfl rfl rfl rfl; exact (of_load a0.ptr Tryd.isAgg30 Tryd.sizeOf30)) <|
          Obls.cons (Obl.plain rfl rfl fun R' w' hw hs hd => by have a0 : Rep (eSl E_impl_Test) A w' (R' 18) (gtD p0 y5) := hd 0 _ _ _ rfl rfl rfl rfl rfl; exact of_assign a0) <|
          Obls.nil
      intro R w hw hs hF'
      replace h1 : R 1 = (.pointer (some ⟨b1_0, 0, none⟩)) := (hs 1 rfl).trans h1
      replace h3 : R 3 = .int .i64 y5 := (hs 3 rfl).trans h3
      obtain ⟨u8, h4, f_u8⟩ : ∃ u, R 4 = u ∧ Rep (eSl E_impl_Test) A w u (gtD p0 y5) := ⟨_, rfl, hF' 6 _ _ rfl rfl rfl⟩
      replace hO := hO.fr hw
      replace hA := hA.fr hw.size
      replace hF := hF.trans hw
      clear hs hF' hw
      refine seqR_nil ?_
      refine HT.seq ?_
      refine HT.seq ?_
      refine HT.text (l := ⟨_, true, .raw (.int .i64 (0 : Int))⟩ :: []) (tl := []) (by kernel_rfl) (by kernel_rfl) (by kernel_rfl) ?_ ?_
      · exact
          Obls.cons (Obl.plain rfl rfl fun R' w' hw hs hd => by exact of_assign rfl) <|
          Obls.nil
      intro R w hw hs hF'
      replace h1 : R 1 = (.pointer (some ⟨b1_0, 0, none⟩)) := (hs 1 rfl).trans h1
      replace h3 : R 3 = .int .i64 y5 := (hs 3 rfl).trans h3
      replace h4 : R 4 = u8 := (hs 4 rfl).trans h4
      have h5 : R 5 = .int .i64 (0 : Int) := hF' 0 _ _ rfl rfl rfl
      replace f_u8 := f_u8.fr hw
      replace hO := hO.fr hw
      replace hA := hA.fr hw.size
      replace hF := hF.trans hw
      clear hs hF' hw
      refine seqR_nil ?_
      obtain ⟨rl9, q10, hr⟩ := cl_some hr
      replace q10 := q10 rfl
      refine HT.cut0 (fun R w => ∃ A : Av, ∃ (s11 : Unit), rl9 = Ex.go s11 ∧ AvOK A w ∧ Fr w0 w ∧ (∀ b o, A0 b o → A b o) ∧ IniOK [ob (.pointer (some ⟨b1_0, 0, none⟩)) (.box w0.heap.size 24 E_impl_RuleSet p0)] A w ∧ R 1 = (.pointer (some ⟨b1_0, 0, none⟩)) ∧ R 3 = .int .i64 y5 ∧ R 4 = u8 ∧ Rep (eSl E_impl_Test) A w u8 (gtD p0 y5)) ?_ ?_
      · refine HT.block ?_
        refine HT.loop (fun k R w => ∃ A : Av, ∃ (y12 : Int), M_spec_IsValidRules_L1 fu p0 y5 k y12 = some rl9 ∧ AvOK A w ∧ Fr w0 w ∧ (∀ b o, A0 b o → A b o) ∧ IniOK [ob (.pointer (some ⟨b1_0, 0, none⟩)) (.box w0.heap.size 24 E_impl_RuleSet p0)] A w ∧ R 1 = (.pointer (some ⟨b1_0, 0, none⟩)) ∧ R 3 = .int .i64 y5 ∧ R 4 = u8 ∧ R 5 = .int .i64 y12 ∧ Rep (eSl E_impl_Test) A w u8 (gtD p0 y5)) fu ⟨_, _, q10, hA, hF, hAA, hO, h1, h3, h4, h5, f_u8⟩ ?_
        have hr1 := hr; clear hr q10
        rintro k R w ⟨A, y12, hr, hA, hF, hAA, hO, h1, h3, h4, h5, f_u8⟩
        rcases k with _ | k
        · cases (show none = some _ from hr)
        rw [M_spec_IsValidRules_L1] at hr
        refine HT.seq ?_
        refine HT.seq ?_
        refine HT.text (l := ⟨_, true, .raw (.int .i64 y12)⟩ :: ⟨_, true, .raw u8⟩ :: ⟨_, true, .raw (.int .i64 ((gtD p0 y5).length : Int))⟩ :: ⟨_, true, .raw (.bool (decide (y12 < ((gtD p0 y5).length : Int))))⟩ :: []) (tl := []) (by kernel_rfl) (by kernel_rfl) (by kernel_rfl) ?_ ?_
        · exact
            Obls.cons (Obl.plain rfl rfl fun R' w' hw hs hd => by have a0 : R' 5 = .int .i64 y12 := (hs 5 rfl).trans h5; exact of_move a0) <|
            Obls.cons (Obl.plain rfl rfl fun R' w' hw hs hd => by have a0 : R' 4 = u8 := (hs 4 rfl).trans h4; exact of_move a0) <|
            Obls.cons (Obl.plain rfl rfl fun R' w' hw hs hd => by have a0 : R' 20 = u8 := hd 0 _ _ _ rfl rfl rfl rfl rfl; have ra0 := (f_u8.fr hw).eq a0; exact of_len_sl (aT := #[]) ra0 Tryd.underlying30) <|
            Obls.cons (Obl.plain rfl rfl fun R' w' hw hs hd => by have a0 : R' 19 = .int .i64 y12 := hd 0 _ _ _ rfl rfl rfl rfl rfl; have a1 : R' 21 = .int .i64 ((gtD p0 y5).length : Int) := hd 1 _ _ _ rfl rfl rfl rfl rfl; exact of_lss a0 a1) <|
            Obls.nil
        intro R w hw hs hF'
        replace h1 : R 1 = (.pointer (some ⟨b1_0, 0, none⟩)) := (hs 1 rfl).trans h1
        replace h3 : R 3 = .int .i64 y5 := (hs 3 rfl).trans h3
        replace h4 : R 4 = u8 := (hs 4 rfl).trans h4
        replace h5 : R 5 = .int .i64 y12 := (hs 5 rfl).trans h5
        have h22 : R 22 = .bool (decide (y12 < ((gtD p0 y5).length : Int))) := hF' 3 _ _ rfl rfl rfl
        replace f_u8 := f_u8.fr hw
        replace hO := hO.fr hw
        replace hA := hA.fr hw.size
        replace hF := hF.trans hw
        clear hs hF' hw
        refine seqR_nil ?_
        refine HT.cond (decide (y12 < ((gtD p0 y5).length : Int))) h22 (fun c13 => ?_) (fun c13 => ?_)
        · have hr := cnd_t c13 hr
          refine HT.skip ?_
          refine HT.seq ?_
          refine HT.block ?_
          refine HT.seq ?_
          obtain ⟨e14, hr⟩ := ck_some hr
          obtain ⟨x15, q16, hr⟩ := cl_some hr
          obtain ⟨e17, hr⟩ := ck_some hr
          obtain ⟨x18, q19, hr⟩ := cl_some hr
          obtain ⟨x20, q21, hr⟩ := bd_some hr
          obtain ⟨e22, hr⟩ := ck_some hr
          obtain ⟨e23, hr⟩ := ck_some hr
          obtain ⟨e24, hr⟩ := ck_some hr
          obtain ⟨x25, q26, hr⟩ := bd_some hr
          obtain ⟨x27, q28, hr⟩ := bd_some hr
          refine HT.draw (by kernel_rfl) (l := ⟨_, true, .raw u8⟩ :: ⟨_, true, .raw (.int .i64 y12)⟩ :: ⟨_, true, .qtr E_impl_Test A (gtD (gtD p0 y5) y12)⟩ :: ⟨_, true, .qtr (eInt .i64) A ((gtD (gtD p0 y5) y12).1)⟩ :: ⟨_, true, .raw (.int .i64 ((gtD (gtD p0 y5) y12).1))⟩ :: ⟨_, true, .raw (.bool x15)⟩ :: ⟨_, true, .raw (.bool (!x15))⟩ :: ⟨_, true, .raw (.bool (!x15))⟩ :: ⟨_, (true && ((!x15) == false)), .raw u8⟩ :: ⟨_, (true && ((!x15) == false)), .raw (.int .i64 y12)⟩ :: ⟨_, (true && ((!x15) == false)), .qtr E_impl_Test A (gtD (gtD p0 y5) y12)⟩ :: ⟨_, (true && ((!x15) == false)), .qtr (eInt .i64) A ((gtD (gtD p0 y5) y12).2.1)⟩ :: ⟨_, (true && ((!x15) == false)), .raw (.int .i64 ((gtD (gtD p0 y5) y12).2.1))⟩ :: ⟨_, (true && ((!x15) == false)), .raw (.bool x18)⟩ :: ⟨_, (true && ((!x15) == false)), .raw (.bool (!x18))⟩ :: ⟨_, true, .raw (.bool x20)⟩ :: ⟨_, true, .raw (.bool x20)⟩ :: ⟨_, (true && (x20 == false)), .raw (.int .i64 y12)⟩ :: ⟨_, (true && (x20 == false)), .raw (.bool (decide ((0 : Int) < y12)))⟩ :: ⟨_, (true && (x20 == false)), .raw (.bool (decide ((0 : Int) < y12)))⟩ :: ⟨_, ((true && (x20 == false)) && ((decide ((0 : Int) < y12)) == true)), .raw u8⟩ :: ⟨_, ((true && (x20 == false)) && ((decide ((0 : Int) < y12)) == true)), .raw (.int .i64 y12)⟩ :: ⟨_, ((true && (x20 == false)) && ((decide ((0 : Int) < y12)) == true)), .raw (.int .i64 (y12 - (1 : Int)))⟩ :: ⟨_, ((true && (x20 == false)) && ((decide ((0 : Int) < y12)) == true)), .qtr E_impl_Test A (gtD (gtD p0 y5) (y12 - (1 : Int)))⟩ :: ⟨_, ((true && (x20 == false)) && ((decide ((0 : Int) < y12)) == true)), .qtr (eInt .i64) A ((gtD (gtD p0 y5) (y12 - (1 : Int))).1)⟩ :: ⟨_, ((true && (x20 == false)) && ((decide ((0 : Int) < y12)) == true)), .raw (.int .i64 ((gtD (gtD p0 y5) (y12 - (1 : Int))).1))⟩ :: ⟨_, ((true && (x20 == false)) && ((decide ((0 : Int) < y12)) == true)), .raw u8⟩ :: ⟨_, ((true && (x20 == false)) && ((decide ((0 : Int) < y12)) == true)), .raw (.int .i64 y12)⟩ :: ⟨_, ((true && (x20 == false)) && ((decide ((0 : Int) < y12)) == true)), .qtr E_impl_Test A (gtD (gtD p0 y5) y12)⟩ :: ⟨_, ((true && (x20 == false)) && ((decide ((0 : Int) < y12)) == true)), .qtr (eInt .i64) A ((gtD (gtD p0 y5) y12).1)⟩ :: ⟨_, ((true && (x20 == false)) && ((decide ((0 : Int) < y12)) == true)), .raw (.int .i64 ((gtD (gtD p0 y5) y12).1))⟩ :: ⟨_, ((true && (x20 == false)) && ((decide ((0 : Int) < y12)) == true)), .raw (.bool (decide (((gtD (gtD p0 y5) y12).1) ≤ ((gtD (gtD p0 y5) (y12 - (1 : Int))).1))))⟩ :: ⟨_, (true && (x20 == false)), .raw (.bool x25)⟩ :: ⟨_, true, .raw (.bool x27)⟩ :: []) (tl := []) (by kernel_rfl) (by kernel_rfl) (by kernel_rfl) (by kernel_rfl) ?_ ?_
          · exact
              Obls.cons (Obl.plain rfl rfl fun R' w' hw hs hd => by have a0 : R' 4 = u8 := (hs 4 rfl).trans h4; exact of_move a0) <|
              Obls.cons (Obl.plain rfl rfl fun R' w' hw hs hd => by have a0 : R' 5 = .int .i64 y12 := (hs 5 rfl).trans h5; exact of_move a0) <|
              Obls.cons (Obl.plain rfl rfl fun R' w' hw hs hd => by have a0 : R' 25 = u8 := hd 0 _ _ _ rfl rfl rfl rfl rfl; have a1 : R' 26 = .int .i64 y12 := hd 1 _ _ _ rfl rfl rfl rfl rfl; have ra0 := (f_u8.fr hw).eq a0; exact of_indexAddr ra0 a1 Tryd.underlying30 Tryd.sizeOf36 e14) <|
              Obls.cons (Obl.plain rfl rfl fun R' w' hw hs hd => by have a0 : QRep E_impl_Test A w' (R' 27) (gtD (gtD p0 y5) y12) := hd 0 _ _ _ rfl rfl rfl rfl rfl; exact of_fieldAddr_q a0 ff_36_0 Tryd.sizeOf3 (by decide) fl_impl_Test_0 rfl) <|
              Obls.cons (Obl.plain rfl rfl fun R' w' hw hs hd => by have a0 : QRep (eInt .i64) A w' (R' 28) ((gtD (gtD p0 y5) y12).1) := hd 0 _ _ _ rfl rfl rfl rfl rfl; exact OpF.int (of_load a0.ptr Tryd.isAgg3 Tryd.sizeOf3)) <|
              Obls.cons (Obl.plain rfl rfl fun R' w' hw hs hd => by have a0 : R' 29 = .int .i64 ((gtD (gtD p0 y5) y12).1) := hd 0 _ _ _ rfl rfl rfl rfl rfl; exact of_call Tryd.call32 (M_spec_l1In_ok (q16 rfl) (hA.fr hw.size) a0 rfl rfl)) <|
              Obls.cons (Obl.plain rfl rfl fun R' w' hw hs hd => by have a0 : R' 30 = .bool x15 := hd 0 _ _ _ rfl rfl rfl rfl rfl; exact of_not a0) <|
              Obls.cons (Obl.plain rfl rfl fun R' w' hw hs hd => by have a0 : R' 31 = .bool (!x15) := hd 0 _ _ _ rfl rfl rfl rfl rfl; exact of_move a0) <|
              Obls.cons (Obl.grd 7 false _ _ _ rfl rfl rfl rfl rfl (by kernel_rfl) fun hg R' w' hw hs hd => by have a0 : R' 4 = u8 := (hs 4 rfl).trans h4; exact of_move a0) <|
              Obls.cons (Obl.grd 7 false _ _ _ rfl rfl rfl rfl rfl (by kernel_rfl) fun hg R' w' hw hs hd => by have a0 : R' 5 = .int .i64 y12 := (hs 5 rfl).trans h5; exact of_move a0) <|
              Obls.cons (Obl.grd 7 false _ _ _ rfl rfl rfl rfl rfl (by kernel_rfl) fun hg R' w' hw hs hd => by have a0 : R' 33 = u8 := hd 0 _ _ _ rfl rfl rfl rfl hg; have a1 : R' 34 = .int .i64 y12 := hd 1 _ _ _ rfl rfl rfl rfl hg; have ra0 := (f_u8.fr hw).eq a0; exact of_indexAddr ra0 a1 Tryd.underlying30 Tryd.sizeOf36 (gd e17 hg)) <|
              Obls.cons (Obl.grd 7 false _ _ _ rfl rfl rfl rfl rfl (by kernel_rfl) fun hg R' w' hw hs hd => by have a0 : QRep E_impl_Test A w' (R' 35) (gtD (gtD p0 y5) y12) := hd 0 _ _ _ rfl rfl rfl rfl hg; exact of_fieldAddr_q a0 ff_36_1 Tryd.sizeOf3 (by decide) fl_impl_Test_1 rfl) <|
              Obls.cons (Obl.grd 7 false _ _ _ rfl rfl rfl rfl rfl (by kernel_rfl) fun hg R' w' hw hs hd => by have a0 : QRep (eInt .i64) A w' (R' 36) ((gtD (gtD p0 y5) y12).2.1) := hd 0 _ _ _ rfl rfl rfl rfl hg; exact OpF.int (of_load a0.ptr Tryd.isAgg3 Tryd.sizeOf3)) <|
              Obls.cons (Obl.grd 7 false _ _ _ rfl rfl rfl rfl rfl (by kernel_rfl) fun hg R' w' hw hs hd => by have a0 : R' 37 = .int .i64 ((gtD (gtD p0 y5) y12).2.1) := hd 0 _ _ _ rfl rfl rfl rfl hg; exact of_call Tryd.call32 (M_spec_l1In_ok (q19 hg) (hA.fr hw.size) a0 rfl rfl)) <|
              Obls.cons (Obl.grd 7 false _ _ _ rfl rfl rfl rfl rfl (by kernel_rfl) fun hg R' w' hw hs hd => by have a0 : R' 38 = .bool x18 := hd 0 _ _ _ rfl rfl rfl rfl hg; exact of_not a0) <|
              Obls.cons (Obl.plain rfl rfl fun R' w' hw hs hd => by have a0 : R' 32 = .bool (!x15) := hd 0 _ _ _ rfl rfl rfl rfl rfl; exact of_pick (!x15) a0 (fun hc => by show _ = Value.bool x20; rw [q21, hc]; exact rfl) (fun hc => by have a2 : R' 39 = .bool (!x18) := hd 1 _ _ _ rfl rfl rfl rfl (g_and rfl (beq_of hc)); show _ = Value.bool x20; rw [q21, hc]; exact a2)) <|
              Obls.cons (Obl.plain rfl rfl fun R' w' hw hs hd => by have a0 : R' 40 = .bool x20 := hd 0 _ _ _ rfl rfl rfl rfl rfl; exact of_move a0) <|
              Obls.cons (Obl.grd 16 false _ _ _ rfl rfl rfl rfl rfl (by kernel_rfl) fun hg R' w' hw hs hd => by have a0 : R' 5 = .int .i64 y12 := (hs 5 rfl).trans h5; exact of_move a0) <|
              Obls.cons (Obl.grd 16 false _ _ _ rfl rfl rfl rfl rfl (by kernel_rfl) fun hg R' w' hw hs hd => by have a0 : R' 42 = .int .i64 y12 := hd 0 _ _ _ rfl rfl rfl rfl hg; exact of_gtr a0 rfl) <|
              Obls.cons (Obl.grd 16 false _ _ _ rfl rfl rfl rfl rfl (by kernel_rfl) fun hg R' w' hw hs hd => by have a0 : R' 43 = .bool (decide ((0 : Int) < y12)) := hd 0 _ _ _ rfl rfl rfl rfl hg; exact of_move a0) <|
              Obls.cons (Obl.grd 19 true _ _ _ rfl rfl rfl rfl rfl (by kernel_rfl) fun hg R' w' hw hs hd => by have a0 : R' 4 = u8 := (hs 4 rfl).trans h4; exact of_move a0) <|
              Obls.cons (Obl.grd 19 true _ _ _ rfl rfl rfl rfl rfl (by kernel_rfl) fun hg R' w' hw hs hd => by have a0 : R' 5 = .int .i64 y12 := (hs 5 rfl).trans h5; exact of_move a0) <|
              Obls.cons (Obl.grd 19 true _ _ _ rfl rfl rfl rfl rfl (by kernel_rfl) fun hg R' w' hw hs hd => by have a0 : R' 46 = .int .i64 y12 := hd 0 _ _ _ rfl rfl rfl rfl hg; exact of_sub a0 rfl (gd e22 hg)) <|
              Obls.cons (Obl.grd 19 true _ _ _ rfl rfl rfl rfl rfl (by kernel_rfl) fun hg R' w' hw hs hd => by have a0 : R' 45 = u8 := hd 0 _ _ _ rfl rfl rfl rfl hg; have a1 : R' 47 = .int .i64 (y12 - (1 : Int)) := hd 1 _ _ _ rfl rfl rfl rfl hg; have ra0 := (f_u8.fr hw).eq a0; exact of_indexAddr ra0 a1 Tryd.underlying30 Tryd.sizeOf36 (gd e23 hg)) <|
              Obls.cons (Obl.grd 19 true _ _ _ rfl rfl rfl rfl rfl (by kernel_rfl) fun hg R' w' hw hs hd => by have a0 : QRep E_impl_Test A w' (R' 48) (gtD (gtD p0 y5) (y12 - (1 : Int))) := hd 0 _ _ _ rfl rfl rfl rfl hg; exact of_fieldAddr_q a0 ff_36_0 Tryd.sizeOf3 (by decide) fl_impl_Test_0 rfl) <|
              Obls.cons (Obl.grd 19 true _ _ _ rfl rfl rfl rfl rfl (by kernel_rfl) fun hg R' w' hw hs hd => by have a0 : QRep (eInt .i64) A w' (R' 49) ((gtD (gtD p0 y5) (y12 - (1 : Int))).1) := hd 0 _ _ _ rfl rfl rfl rfl hg; exact OpF.int (of_load a0.ptr Tryd.isAgg3 Tryd.sizeOf3)) <|
              Obls.cons (Obl.grd 19 true _ _ _ rfl rfl rfl rfl rfl (by kernel_rfl) fun hg R' w' hw hs hd => by have a0 : R' 4 = u8 := (hs 4 rfl).trans h4; exact of_move a0) <|
              Obls.cons (Obl.grd 19 true _ _ _ rfl rfl rfl rfl rfl (by kernel_rfl) fun hg R' w' hw hs hd => by have a0 : R' 5 = .int .i64 y12 := (hs 5 rfl).trans h5; exact of_move a0) <|
              Obls.cons (Obl.grd 19 true _ _ _ rfl rfl rfl rfl rfl (by kernel_rfl) fun hg R' w' hw hs hd => by have a0 : R' 51 = u8 := hd 0 _ _ _ rfl rfl rfl rfl hg; have a1 : R' 52 = .int .i64 y12 := hd 1 _ _ _ rfl rfl rfl rfl hg; have ra0 := (f_u8.fr hw).eq a0; exact of_indexAddr ra0 a1 Tryd.underlying30 Tryd.sizeOf36 (gd e24 hg)) <|
              Obls.cons (Obl.grd 19 true _ _ _ rfl rfl rfl rfl rfl (by kernel_rfl) fun hg R' w' hw hs hd => by have a0 : QRep E_impl_Test A w' (R' 53) (gtD (gtD p0 y5) y12) := hd 0 _ _ _ rfl rfl rfl rfl hg; exact of_fieldAddr_q a0 ff_36_0 Tryd.sizeOf3 (by decide) fl_impl_Test_0 rfl) <|
              Obls.cons (Obl.grd 19 true _ _ _ rfl rfl rfl rfl rfl (by kernel_rfl) fun hg R' w' hw hs hd => by have a0 : QRep (eInt .i64) A w' (R' 54) ((gtD (gtD p0 y5) y12).1) := hd 0 _ _ _ rfl rfl rfl rfl hg; exact OpF.int (of_load a0.ptr Tryd.isAgg3 Tryd.sizeOf3)) <|
              Obls.cons (Obl.grd 19 true _ _ _ rfl rfl rfl rfl rfl (by kernel_rfl) fun hg R' w' hw hs hd => by have a0 : R' 50 = .int .i64 ((gtD (gtD p0 y5) (y12 - (1 : Int))).1) := hd 0 _ _ _ rfl rfl rfl rfl hg; have a1 : R' 55 = .int .i64 ((gtD (gtD p0 y5) y12).1) := hd 1 _ _ _ rfl rfl rfl rfl hg; exact of_geq a0 a1) <|
              Obls.cons (Obl.grd 16 false _ _ _ rfl rfl rfl rfl rfl (by kernel_rfl) fun hg R' w' hw hs hd => by have a0 : R' 44 = .bool (decide ((0 : Int) < y12)) := hd 0 _ _ _ rfl rfl rfl rfl hg; exact of_pick (decide ((0 : Int) < y12)) a0 (fun hc => by have a1 : R' 56 = .bool (decide (((gtD (gtD p0 y5) y12).1) ≤ ((gtD (gtD p0 y5) (y12 - (1 : Int))).1))) := hd 1 _ _ _ rfl rfl rfl rfl (g_and hg (beq_of hc)); show _ = Value.bool x25; rw [q26, hc]; exact a1) (fun hc => by show _ = Value.bool x25; rw [q26, hc]; exact rfl)) <|
              Obls.cons (Obl.plain rfl rfl fun R' w' hw hs hd => by have a0 : R' 41 = .bool x20 := hd 0 _ _ _ rfl rfl rfl rfl rfl; exact of_pick x20 a0 (fun hc => by show _ = Value.bool x27; rw [q28, hc]; exact rfl) (fun hc => by have a2 : R' 57 = .bool x25 := hd 1 _ _ _ rfl rfl rfl rfl (g_and rfl (beq_of hc)); show _ = Value.bool x27; rw [q28, hc]; exact a2)) <|
              Obls.nil
          intro R w hw hs hF'
          replace h1 : R 1 = (.pointer (some ⟨b1_0, 0, none⟩)) := (hs 1 rfl).trans h1
          replace h3 : R 3 = .int .i64 y5 := (hs 3 rfl).trans h3
          replace h4 : R 4 = u8 := (hs 4 rfl).trans h4
          replace h5 : R 5 = .int .i64 y12 := (hs 5 rfl).trans h5
          have h58 : R 58 = .bool x27 := hF' 33 _ _ rfl rfl rfl
          replace f_u8 := f_u8.fr hw
          replace hO := hO.fr hw
          replace hA := hA.fr hw.size
          replace hF := hF.trans hw
          clear hs hF' hw
          refine seqR_nil ?_
          refine HT.cond x27 h58 (fun c29 => ?_) (fun c29 => ?_)
          · have hr := cnd_t c29 hr
            refine HT.seq ?_
            refine HT.text (l := ⟨_, true, .raw (.bool false)⟩ :: []) (tl := []) (by kernel_rfl) (by kernel_rfl) (by kernel_rfl) ?_ ?_
            · exact
                Obls.cons (Obl.plain rfl rfl fun R' w' hw hs hd => by exact of_assign rfl) <|
                Obls.nil
            intro R w hw hs hF'
            have h2 : R 2 = .bool false := hF' 0 _ _ rfl rfl rfl
            replace hO := hO.fr hw
            replace hO : IniOK [] A w := hO.sub [] trivial
            replace hA := hA.fr hw.size
            replace hF := hF.trans hw
            clear hs hF' hw
            refine seqR_nil ?_
            refine HT.ret ?_
            obtain rfl := Option.some.inj hr
            have hr := hr1
            replace hr : some _ = some _ := hr
            obtain rfl := Option.some.inj hr
            have hr := hr0
            replace hr : some _ = some _ := hr
            obtain rfl := Option.some.inj hr
            exact ⟨.inr rfl, [R 2], ⟨rfl, trivial⟩, h2, hF⟩
          · have hr := cnd_f c29 hr
            refine HT.skip ?_
            obtain ⟨e30, hr⟩ := ck_some hr
            refine HT.text (l := ⟨_, true, .raw (.int .i64 y12)⟩ :: ⟨_, true, .raw (.int .i64 (y12 + (1 : Int)))⟩ :: ⟨_, true, .raw (.int .i64 (y12 + (1 : Int)))⟩ :: []) (tl := []) (by kernel_rfl) (by kernel_rfl) (by kernel_rfl) ?_ ?_
            · exact
                Obls.cons (Obl.plain rfl rfl fun R' w' hw hs hd => by have a0 : R' 5 = .int .i64 y12 := (hs 5 rfl).trans h5; exact of_move a0) <|
                Obls.cons (Obl.plain rfl rfl fun R' w' hw hs hd => by have a0 : R' 23 = .int .i64 y12 := hd 0 _ _ _ rfl rfl rfl rfl rfl; exact of_add a0 rfl e30) <|
                Obls.cons (Obl.plain rfl rfl fun R' w' hw hs hd => by have a0 : R' 24 = .int .i64 (y12 + (1 : Int)) := hd 0 _ _ _ rfl rfl rfl rfl rfl; exact of_assign a0) <|
                Obls.nil
            intro R w hw hs hF'
            replace h1 : R 1 = (.pointer (some ⟨b1_0, 0, none⟩)) := (hs 1 rfl).trans h1
            replace h3 : R 3 = .int .i64 y5 := (hs 3 rfl).trans h3
            replace h4 : R 4 = u8 := (hs 4 rfl).trans h4
            have h5 : R 5 = .int .i64 (y12 + (1 : Int)) := hF' 2 _ _ rfl rfl rfl
            replace f_u8 := f_u8.fr hw
            replace hO := hO.fr hw
            replace hA := hA.fr hw.size
            replace hF := hF.trans hw
            clear hs hF' hw
            refine seqR_nil ?_
            exact Exists.intro k (And.intro (Nat.lt_succ_self k) ⟨_, _, hr, hA, hF, hAA, hO, h1, h3, h4, h5, f_u8⟩)
        · have hr := cnd_f c13 hr
          refine HT.exit ?_
          obtain rfl := Option.some.inj hr
          exact Exists.intro _ ⟨_, rfl, hA, hF, hAA, hO, h1, h3, h4, f_u8⟩
      rintro R w ⟨A, s11, rfl, hA, hF, hAA, hO, h1, h3, h4, f_u8⟩
      have hr := exM_go hr
      refine HT.seq ?_
      obtain ⟨x31, q32, hr⟩ := cl_some hr
      refine HT.text (l := ⟨_, true, .raw u8⟩ :: ⟨_, true, .raw (.int .i64 ((gtD p0 y5).length : Int))⟩ :: ⟨_, true, .raw (.bool x31)⟩ :: ⟨_, true, .raw (.bool (!x31))⟩ :: []) (tl := []) (by kernel_rfl) (by kernel_rfl) (by kernel_rfl) ?_ ?_
      · exact
          Obls.cons (Obl.plain rfl rfl fun R' w' hw hs hd => by have a0 : R' 4 = u8 := (hs 4 rfl).trans h4; exact of_move a0) <|
          Obls.cons (Obl.plain rfl rfl fun R' w' hw hs hd => by have a0 : R' 59 = u8 := hd 0 _ _ _ rfl rfl rfl rfl rfl; have ra0 := (f_u8.fr hw).eq a0; exact of_len_sl (aT := #[]) ra0 Tryd.underlying30) <|
          Obls.cons (Obl.plain rfl rfl fun R' w' hw hs hd => by have a0 : R' 60 = .int .i64 ((gtD p0 y5).length : Int) := hd 0 _ _ _ rfl rfl rfl rfl rfl; exact of_call Tryd.call32 (M_spec_l1In_ok (q32 rfl) (hA.fr hw.size) a0 rfl rfl)) <|
          Obls.cons (Obl.plain rfl rfl fun R' w' hw hs hd => by have a0 : R' 61 = .bool x31 := hd 0 _ _ _ rfl rfl rfl rfl rfl; exact of_not a0) <|
          Obls.nil
      intro R w hw hs hF'
      replace h1 : R 1 = (.pointer (some ⟨b1_0, 0, none⟩)) := (hs 1 rfl).trans h1
      replace h3 : R 3 = .int .i64 y5 := (hs 3 rfl).trans h3
      have h62 : R 62 = .bool (!x31) := hF' 3 _ _ rfl rfl rfl
      replace hO := hO.fr hw
      replace hA := hA.fr hw.size
      replace hF := hF.trans hw
      clear hs hF' hw
      refine seqR_nil ?_
      refine HT.cond (!x31) h62 (fun c33 => ?_) (fun c33 => ?_)
      · have hr := cnd_t c33 hr
        refine HT.seq ?_
        refine HT.text (l := ⟨_, true, .raw (.bool false)⟩ :: []) (tl := []) (by kernel_rfl) (by kernel_rfl) (by kernel_rfl) ?_ ?_
        · exact
            Obls.cons (Obl.plain rfl rfl fun R' w' hw hs hd => by exact of_assign rfl) <|
            Obls.nil
        intro R w hw hs hF'
        have h2 : R 2 = .bool false := hF' 0 _ _ rfl rfl rfl
        replace hO := hO.fr hw
        replace hO : IniOK [] A w := hO.sub [] trivial
        replace hA := hA.fr hw.size
        replace hF := hF.trans hw
        clear hs hF' hw
        refine seqR_nil ?_
        refine HT.ret ?_
        obtain rfl := Option.some.inj hr
        have hr := hr0
        replace hr : some _ = some _ := hr
        obtain rfl := Option.some.inj hr
        exact ⟨.inr rfl, [R 2], ⟨rfl, trivial⟩, h2, hF⟩
      · have hr := cnd_f c33 hr
        refine HT.skip ?_
        obtain ⟨e34, hr⟩ := ck_some hr
        refine HT.text (l := ⟨_, true, .raw (.int .i64 y5)⟩ :: ⟨_, true, .raw (.int .i64 (y5 + (1 : Int)))⟩ :: ⟨_, true, .raw (.int .i64 (y5 + (1 : Int)))⟩ :: []) (tl := []) (by kernel_rfl) (by kernel_rfl) (by kernel_rfl) ?_ ?_
        · exact
            Obls.cons (Obl.plain rfl rfl fun R' w' hw hs hd => by have a0 : R' 3 = .int .i64 y5 := (hs 3 rfl).trans h3; exact of_move a0) <|
            Obls.cons (Obl.plain rfl rfl fun R' w' hw hs hd => by have a0 : R' 11 = .int .i64 y5 := hd 0 _ _ _ rfl rfl rfl rfl rfl; exact of_add a0 rfl e34) <|
            Obls.cons (Obl.plain rfl rfl fun R' w' hw hs hd => by have a0 : R' 12 = .int .i64 (y5 + (1 : Int)) := hd 0 _ _ _ rfl rfl rfl rfl rfl; exact of_assign a0) <|
            Obls.nil
        intro R w hw hs hF'
        replace h1 : R 1 = (.pointer (some ⟨b1_0, 0, none⟩)) := (hs 1 rfl).trans h1
        have h3 : R 3 = .int .i64 (y5 + (1 : Int)) := hF' 2 _ _ rfl rfl rfl
        replace hO := hO.fr hw
        replace hA := hA.fr hw.size
        replace hF := hF.trans hw
        clear hs hF' hw
        refine seqR_nil ?_
        exact Exists.intro k (And.intro (Nat.lt_succ_self k) ⟨_, _, hr, hA, hF, hAA, hO, h1, h3⟩)
    · have hr := cnd_f c6 hr
      refine HT.exit ?_
      obtain rfl := Option.some.inj hr
      exact Exists.intro _ ⟨_, rfl, hA, hF, hAA, hO, h1⟩
  rintro R w ⟨A, s4, rfl, hA, hF, hAA, hO, h1⟩
  have hr := exM_go hr
  refine HT.seq ?_
  obtain ⟨x35, q36, hr⟩ := cl_some hr
  refine HT.text (l := ⟨_, true, .raw (.pointer (some ⟨b1_0, 0, none⟩))⟩ :: ⟨_, true, .rep (eSl E_impl_Rule) A p0⟩ :: ⟨_, true, .raw (.int .i64 (p0.length : Int))⟩ :: ⟨_, true, .raw (.bool x35)⟩ :: ⟨_, true, .raw (.bool x35)⟩ :: []) (tl := []) (by kernel_rfl) (by kernel_rfl) (by kernel_rfl) ?_ ?_
  · exact
      Obls.cons (Obl.plain rfl rfl fun R' w' hw hs hd => by have a0 : R' 1 = (.pointer (some ⟨b1_0, 0, none⟩)) := (hs 1 rfl).trans h1; exact of_fieldAddr_raw a0 ff_24_0 Tryd.sizeOf22 (by decide) rfl) <|
      Obls.cons (Obl.plain rfl rfl fun R' w' hw hs hd => by have a0 : R' 63 = (.pointer (some ⟨b1_0, 0, none⟩)) := hd 0 _ _ _ rfl rfl rfl rfl rfl; exact (of_load_box ((hO.fr hw).ok 0 _ rfl).1 a0 fl_impl_RuleSet_0 rfl Tryd.isAgg22 Tryd.sizeOf22)) <|
      Obls.cons (Obl.plain rfl rfl fun R' w' hw hs hd => by have a0 : Rep (eSl E_impl_Rule) A w' (R' 64) p0 := hd 0 _ _ _ rfl rfl rfl rfl rfl; exact of_len_sl (aT := #[]) a0 Tryd.underlying22) <|
      Obls.cons (Obl.plain rfl rfl fun R' w' hw hs hd => by have a0 : R' 65 = .int .i64 (p0.length : Int) := hd 0 _ _ _ rfl rfl rfl rfl rfl; exact of_call Tryd.call32 (M_spec_l1In_ok (q36 rfl) (hA.fr hw.size) a0 rfl rfl)) <|
      Obls.cons (Obl.plain rfl rfl fun R' w' hw hs hd => by have a0 : R' 66 = .bool x35 := hd 0 _ _ _ rfl rfl rfl rfl rfl; exact of_assign a0) <|
      Obls.nil
  intro R w hw hs hF'
  have h2 : R 2 = .bool x35 := hF' 4 _ _ rfl rfl rfl
  replace hO := hO.fr hw
  replace hO : IniOK [] A w := hO.sub [] trivial
  replace hA := hA.fr hw.size
  replace hF := hF.trans hw
  clear hs hF' hw
  refine seqR_nil ?_
  refine HT.ret ?_
  obtain rfl := Option.some.inj hr
  exact ⟨.inr rfl, [R 2], ⟨rfl, trivial⟩, h2, hF⟩
end Go.Proofs.YtpneepiboheldaaDoor
