/- Own texts laid together. No statement of the seat is proved here. -/
import Derived.Test.YtpneepiboheldaaDoorZx4
/- Printed by dec.py: plain functions and the proofs that the code computes them. No statement of the seat is proved here. -/
namespace Go.Proofs.YtpneepiboheldaaDoor
open Go.RowKit
set_option linter.unusedVariables false
def M_slices_Index_string_string_L0 (fu : Nat) (p0 : List (List UInt8)) (p1 : List UInt8) : Nat → Int → Option (Ex Int Unit)
  | 0, _ => none
  | k + 1, y4 =>
    bif (decide (y4 < (p0.length : Int))) then (
      ck (inR y4 p0.length) <|
      bif (p1 == (gtD p0 y4)) then (
        some (Ex.ret y4)
      ) else (
        ck (i64B (y4 + (1 : Int))) <|
        M_slices_Index_string_string_L0 fu p0 p1 k (y4 + (1 : Int))
      )
    ) else (
      some (Ex.go ())
    )
def M_slices_Index_string_string (fu : Nat) (p0 : List (List UInt8)) (p1 : List UInt8) : Option Int :=
  cl true (M_slices_Index_string_string_L0 fu p0 p1 fu (0 : Int)) fun rl1 =>
  exM rl1 (fun r => some r) fun s3 =>
  some (-1 : Int)
set_option maxRecDepth 100000 in
set_option maxHeartbeats 4000000 in
theorem M_slices_Index_string_string_ok {fu : Nat} {A : Av} {p0 : List (List UInt8)} {p1 : List UInt8} {r : Int} (hr : M_slices_Index_string_string fu p0 p1 = some r) {w : World} {v0 : Value} {v1 : Value} (hA : AvOK A w) (h0 : Rep (eSl eStr) A w v0 p0) (h1 : Rep eStr A w v1 p1) :
    Calls Tryd.prog 25 #[v0, v1] w fun e w' => ∃ v, e = .returned v ∧ (v = .int .i64 r ∧ Fr w w') := by
  unfold M_slices_Index_string_string at hr
  obtain ⟨w0, hw0⟩ : ∃ w0, w0 = w := ⟨_, rfl⟩
  have hF : Fr w0 w := hw0 ▸ Fr.refl _
  rw [show Fr w = Fr w0 from hw0 ▸ rfl]
  clear hw0
  refine calls_of_HT2 [.tmp 4] Tryd.func25 Tryd.ntmps25 (by decide) rfl rfl (Nat.le_of_ble_eq_true rfl) ?_
  intro R hR
  have f_v0 := h0
  replace h0 : R 0 = v0 := hR 0 _ rfl
  have f_v1 := h1
  replace h1 : R 1 = v1 := hR 1 _ rfl
  clear hR
  refine HT.seq ?_
  refine HT.text (l := ⟨_, true, .raw (.int .i64 (0 : Int))⟩ :: []) (tl := []) (by kernel_rfl) (by kernel_rfl) (by kernel_rfl) ?_ ?_
  · exact
      Obls.cons (Obl.plain rfl rfl fun R' w' hw hs hd => by exact of_assign rfl) <|
      Obls.nil
  intro R w hw hs hF'
  replace h0 : R 0 = v0 := (hs 0 rfl).trans h0
  replace h1 : R 1 = v1 := (hs 1 rfl).trans h1
  replace f_v0 := f_v0.fr hw
  replace f_v1 := f_v1.fr hw
  replace hA := hA.fr hw.size
  replace hF := hF.trans hw
  clear hs hF' hw
  refine seqR_nil ?_
  refine HT.seq ?_
  refine HT.seq ?_
  refine HT.text (l := ⟨_, true, .raw v0⟩ :: ⟨_, true, .raw (.int .i64 (p0.length : Int))⟩ :: ⟨_, true, .raw (.int .i64 (0 : Int))⟩ :: []) (tl := []) (by kernel_rfl) (by kernel_rfl) (by kernel_rfl) ?_ ?_
  · exact
      Obls.cons (Obl.plain rfl rfl fun R' w' hw hs hd => by have a0 : R' 0 = v0 := (hs 0 rfl).trans h0; exact of_move a0) <|
      Obls.cons (Obl.plain rfl rfl fun R' w' hw hs hd => by have a0 : R' 6 = v0 := hd 0 _ _ _ rfl rfl rfl rfl rfl; have ra0 := (f_v0.fr hw).eq a0; exact of_len_sl (aT := #[]) ra0 Tryd.underlying33) <|
      Obls.cons (Obl.plain rfl rfl fun R' w' hw hs hd => by exact of_move rfl) <|
      Obls.nil
  intro R w hw hs hF'
  replace h0 : R 0 = v0 := (hs 0 rfl).trans h0
  replace h1 : R 1 = v1 := (hs 1 rfl).trans h1
  have h7 : R 7 = .int .i64 (p0.length : Int) := hF' 1 _ _ rfl rfl rfl
  have h8 : R 8 = .int .i64 (0 : Int) := hF' 2 _ _ rfl rfl rfl
  replace f_v0 := f_v0.fr hw
  replace f_v1 := f_v1.fr hw
  replace hA := hA.fr hw.size
  replace hF := hF.trans hw
  clear hs hF' hw
  refine seqR_nil ?_
  obtain ⟨rl1, q2, hr⟩ := cl_some hr
  replace q2 := q2 rfl
  refine HT.cut0 (fun R w => ∃ (s3 : Unit), rl1 = Ex.go s3 ∧ AvOK A w ∧ Fr w0 w) ?_ ?_
  · refine HT.block ?_
    refine HT.loop (fun k R w => ∃ (y4 : Int), M_slices_Index_string_string_L0 fu p0 p1 k y4 = some rl1 ∧ AvOK A w ∧ Fr w0 w ∧ R 0 = v0 ∧ R 1 = v1 ∧ R 7 = .int .i64 (p0.length : Int) ∧ R 8 = .int .i64 y4 ∧ Rep (eSl eStr) A w v0 p0 ∧ Rep eStr A w v1 p1) fu ⟨_, q2, hA, hF, h0, h1, h7, h8, f_v0, f_v1⟩ ?_
    have hr0 := hr; clear hr q2
    rintro k R w ⟨y4, hr, hA, hF, h0, h1, h7, h8, f_v0, f_v1⟩
    rcases k with _ | k
    · cases (show none = some _ from hr)
    rw [M_slices_Index_string_string_L0] at hr
    refine HT.seq ?_
    refine HT.text (l := ⟨_, true, .raw (.bool (decide (y4 < (p0.length : Int))))⟩ :: []) (tl := []) (by kernel_rfl) (by kernel_rfl) (by kernel_rfl) ?_ ?_
    · exact
        Obls.cons (Obl.plain rfl rfl fun R' w' hw hs hd => by have a0 : R' 8 = .int .i64 y4 := (hs 8 rfl).trans h8; have a1 : R' 7 = .int .i64 (p0.length : Int) := (hs 7 rfl).trans h7; exact of_lss a0 a1) <|
        Obls.nil
    intro R w hw hs hF'
    replace h0 : R 0 = v0 := (hs 0 rfl).trans h0
    replace h1 : R 1 = v1 := (hs 1 rfl).trans h1
    replace h7 : R 7 = .int .i64 (p0.length : Int) := (hs 7 rfl).trans h7
    replace h8 : R 8 = .int .i64 y4 := (hs 8 rfl).trans h8
    have h9 : R 9 = .bool (decide (y4 < (p0.length : Int))) := hF' 0 _ _ rfl rfl rfl
    replace f_v0 := f_v0.fr hw
    replace f_v1 := f_v1.fr hw
    replace hA := hA.fr hw.size
    replace hF := hF.trans hw
    clear hs hF' hw
    refine seqR_nil ?_
    refine HT.seq ?_
    refine HT.cond (decide (y4 < (p0.length : Int))) h9 (fun c5 => ?_) (fun c5 => ?_)
    · have hr := cnd_t c5 hr
      refine HT.skip ?_
      refine HT.seq ?_
      refine HT.block ?_
      refine HT.seq ?_
      refine HT.text (l := ⟨_, true, .raw (.int .i64 y4)⟩ :: ⟨_, true, .raw (.int .i64 y4)⟩ :: []) (tl := []) (by kernel_rfl) (by kernel_rfl) (by kernel_rfl) ?_ ?_
      · exact
          Obls.cons (Obl.plain rfl rfl fun R' w' hw hs hd => by have a0 : R' 8 = .int .i64 y4 := (hs 8 rfl).trans h8; exact of_move a0) <|
          Obls.cons (Obl.plain rfl rfl fun R' w' hw hs hd => by have a0 : R' 10 = .int .i64 y4 := hd 0 _ _ _ rfl rfl rfl rfl rfl; exact of_assign a0) <|
          Obls.nil
      intro R w hw hs hF'
      replace h0 : R 0 = v0 := (hs 0 rfl).trans h0
      replace h1 : R 1 = v1 := (hs 1 rfl).trans h1
      replace h7 : R 7 = .int .i64 (p0.length : Int) := (hs 7 rfl).trans h7
      replace h8 : R 8 = .int .i64 y4 := (hs 8 rfl).trans h8
      have h5 : R 5 = .int .i64 y4 := hF' 1 _ _ rfl rfl rfl
      replace f_v0 := f_v0.fr hw
      replace f_v1 := f_v1.fr hw
      replace hA := hA.fr hw.size
      replace hF := hF.trans hw
      clear hs hF' hw
      refine seqR_nil ?_
      refine HT.seq ?_
      obtain ⟨e6, hr⟩ := ck_some hr
      refine HT.text (l := ⟨_, true, .raw v1⟩ :: ⟨_, true, .raw v0⟩ :: ⟨_, true, .raw (.int .i64 y4)⟩ :: ⟨_, true, .qtr eStr A (gtD p0 y4)⟩ :: ⟨_, true, .rep eStr A (gtD p0 y4)⟩ :: ⟨_, true, .raw (.bool (p1 == (gtD p0 y4)))⟩ :: []) (tl := []) (by kernel_rfl) (by kernel_rfl) (by kernel_rfl) ?_ ?_
      · exact
          Obls.cons (Obl.plain rfl rfl fun R' w' hw hs hd => by have a0 : R' 1 = v1 := (hs 1 rfl).trans h1; exact of_move a0) <|
          Obls.cons (Obl.plain rfl rfl fun R' w' hw hs hd => by have a0 : R' 0 = v0 := (hs 0 rfl).trans h0; exact of_move a0) <|
          Obls.cons (Obl.plain rfl rfl fun R' w' hw hs hd => by have a0 : R' 5 = .int .i64 y4 := (hs 5 rfl).trans h5; exact of_move a0) <|
          Obls.cons (Obl.plain rfl rfl fun R' w' hw hs hd => by have a0 : R' 12 = v0 := hd 0 _ _ _ rfl rfl rfl rfl rfl; have a1 : R' 13 = .int .i64 y4 := hd 1 _ _ _ rfl rfl rfl rfl rfl; have ra0 := (f_v0.fr hw).eq a0; exact of_indexAddr ra0 a1 Tryd.underlying33 Tryd.sizeOf9 e6) <|
          Obls.cons (Obl.plain rfl rfl fun R' w' hw hs hd => by have a0 : QRep eStr A w' (R' 14) (gtD p0 y4) := hd 0 _ _ _ rfl rfl rfl rfl rfl; exact (of_load a0.ptr Tryd.isAgg9 Tryd.sizeOf9)) <|
          Obls.cons (Obl.plain rfl rfl fun R' w' hw hs hd => by have a0 : R' 11 = v1 := hd 0 _ _ _ rfl rfl rfl rfl rfl; have ra0 := (f_v1.fr hw).eq a0; have a1 : Rep eStr A w' (R' 15) (gtD p0 y4) := hd 1 _ _ _ rfl rfl rfl rfl rfl; exact of_seql ra0 a1) <|
          Obls.nil
      intro R w hw hs hF'
      replace h0 : R 0 = v0 := (hs 0 rfl).trans h0
      replace h1 : R 1 = v1 := (hs 1 rfl).trans h1
      replace h5 : R 5 = .int .i64 y4 := (hs 5 rfl).trans h5
      replace h7 : R 7 = .int .i64 (p0.length : Int) := (hs 7 rfl).trans h7
      replace h8 : R 8 = .int .i64 y4 := (hs 8 rfl).trans h8
      have h16 : R 16 = .bool (p1 == (gtD p0 y4)) := hF' 5 _ _ rfl rfl rfl
      replace f_v0 := f_v0.fr hw
      replace f_v1 := f_v1.fr hw
      replace hA := hA.fr hw.size
      replace hF := hF.trans hw
      clear hs hF' hw
      refine seqR_nil ?_
      refine HT.cond (p1 == (gtD p0 y4)) h16 (fun c7 => ?_) (fun c7 => ?_)
      · have hr := cnd_t c7 hr
        refine HT.seq ?_
        refine HT.text (l := ⟨_, true, .raw (.int .i64 y4)⟩ :: ⟨_, true, .raw (.int .i64 y4)⟩ :: []) (tl := []) (by kernel_rfl) (by kernel_rfl) (by kernel_rfl) ?_ ?_
        · exact
            Obls.cons (Obl.plain rfl rfl fun R' w' hw hs hd => by have a0 : R' 5 = .int .i64 y4 := (hs 5 rfl).trans h5; exact of_move a0) <|
            Obls.cons (Obl.plain rfl rfl fun R' w' hw hs hd => by have a0 : R' 17 = .int .i64 y4 := hd 0 _ _ _ rfl rfl rfl rfl rfl; exact of_assign a0) <|
            Obls.nil
        intro R w hw hs hF'
        have h4 : R 4 = .int .i64 y4 := hF' 1 _ _ rfl rfl rfl
        replace hA := hA.fr hw.size
        replace hF := hF.trans hw
        clear hs hF' hw
        refine seqR_nil ?_
        refine HT.ret ?_
        obtain rfl := Option.some.inj hr
        have hr := hr0
        replace hr : some _ = some _ := hr
        obtain rfl := Option.some.inj hr
        exact ⟨.inr rfl, [R 4], ⟨rfl, trivial⟩, h4, hF⟩
      · have hr := cnd_f c7 hr
        refine HT.skip ?_
        obtain ⟨e8, hr⟩ := ck_some hr
        refine HT.text (l := ⟨_, true, .raw (.int .i64 (y4 + (1 : Int)))⟩ :: ⟨_, true, .raw (.int .i64 (y4 + (1 : Int)))⟩ :: []) (tl := []) (by kernel_rfl) (by kernel_rfl) (by kernel_rfl) ?_ ?_
        · exact
            Obls.cons (Obl.plain rfl rfl fun R' w' hw hs hd => by have a0 : R' 8 = .int .i64 y4 := (hs 8 rfl).trans h8; exact of_add a0 rfl e8) <|
            Obls.cons (Obl.plain rfl rfl fun R' w' hw hs hd => by have a0 : R' 18 = .int .i64 (y4 + (1 : Int)) := hd 0 _ _ _ rfl rfl rfl rfl rfl; exact of_move a0) <|
            Obls.nil
        intro R w hw hs hF'
        replace h0 : R 0 = v0 := (hs 0 rfl).trans h0
        replace h1 : R 1 = v1 := (hs 1 rfl).trans h1
        replace h7 : R 7 = .int .i64 (p0.length : Int) := (hs 7 rfl).trans h7
        have h8 : R 8 = .int .i64 (y4 + (1 : Int)) := hF' 1 _ _ rfl rfl rfl
        replace f_v0 := f_v0.fr hw
        replace f_v1 := f_v1.fr hw
        replace hA := hA.fr hw.size
        replace hF := hF.trans hw
        clear hs hF' hw
        refine seqR_nil ?_
        exact Exists.intro k (And.intro (Nat.lt_succ_self k) ⟨_, hr, hA, hF, h0, h1, h7, h8, f_v0, f_v1⟩)
    · have hr := cnd_f c5 hr
      refine HT.exit ?_
      obtain rfl := Option.some.inj hr
      exact Exists.intro _ ⟨rfl, hA, hF⟩
  rintro R w ⟨s3, rfl, hA, hF⟩
  have hr := exM_go hr
  refine HT.seq ?_
  refine HT.text (l := ⟨_, true, .raw (.int .i64 (-1 : Int))⟩ :: []) (tl := []) (by kernel_rfl) (by kernel_rfl) (by kernel_rfl) ?_ ?_
  · exact
      Obls.cons (Obl.plain rfl rfl fun R' w' hw hs hd => by exact of_assign rfl) <|
      Obls.nil
  intro R w hw hs hF'
  have h4 : R 4 = .int .i64 (-1 : Int) := hF' 0 _ _ rfl rfl rfl
  replace hA := hA.fr hw.size
  replace hF := hF.trans hw
  clear hs hF' hw
  refine seqR_nil ?_
  refine HT.ret ?_
  obtain rfl := Option.some.inj hr
  exact ⟨.inr rfl, [R 4], ⟨rfl, trivial⟩, h4, hF⟩
def M_impl_parseTest (fu : Nat) (p0 : List UInt8) : Option (T_impl_Test × Bool) :=
  cl true (M_cut fu p0 ([62, 61] : List UInt8)) fun x2 =>
  bif (!x2.2.2) then (
    cl true (M_cut fu p0 ([60] : List UInt8)) fun x7 =>
    cl true (M_impl_ParseInt fu x7.2.1) fun x11 =>
    cl true (M_slices_Index_string_string fu featL x7.1) fun x13 =>
    bd (x11.2 && (decide ((0 : Int) ≤ x13))) fun x15 =>
    some ((x13, x11.1, true), x15)
  ) else (
    cl true (M_impl_ParseInt fu x2.2.1) fun x19 =>
    cl true (M_slices_Index_string_string fu featL x2.1) fun x21 =>
    bd (x19.2 && (decide ((0 : Int) ≤ x21))) fun x23 =>
    some ((x21, x19.1, false), x23)
  )
set_option linter.unusedSimpArgs false in
set_option maxRecDepth 100000 in
set_option maxHeartbeats 4000000 in
theorem M_impl_parseTest_ok {fu : Nat} {A0 : Av} {p0 : List UInt8} {r : T_impl_Test × Bool} (hr : M_impl_parseTest fu p0 = some r) {w : World} {v0 : Value} (hA : AvOK A0 w) (hG : GTab w) (h0 : Rep eStr A0 w v0 p0) :
    Calls Tryd.prog 13 #[v0] w fun e w' => ∃ v, e = .returned v ∧ ((∃ a b, v = .tuple #[a, b] ∧ Rep E_impl_Test A0 w' a r.1 ∧ b = .bool r.2) ∧ Fr w w') := by
  unfold M_impl_parseTest at hr
  obtain ⟨w0, hw0⟩ : ∃ w0, w0 = w := ⟨_, rfl⟩
  have hF : Fr w0 w := hw0 ▸ Fr.refl _
  have hA0 : ∀ b o, A0 b o → b < w0.heap.size := fun b o h => hw0 ▸ hA b o h
  have hA00 : AvOK A0 w0 := hA0
  rw [show Fr w = Fr w0 from hw0 ▸ rfl]
  have hG0 : GTab w0 := hw0 ▸ hG
  clear hw0
  obtain ⟨A, hAe⟩ : ∃ A, A = A0 := ⟨_, rfl⟩
  have hAA : ∀ b o, A0 b o → A b o := fun b o h => hAe ▸ h
  replace hA : AvOK A w := hAe ▸ hA
  have hO : IniOK [] A w := IniOK.nil
  refine calls_of_HT2 [.cell 2 36, .tmp 3] Tryd.func13 Tryd.ntmps13 (by decide) rfl rfl (Nat.le_of_ble_eq_true rfl) ?_
  intro R hR
  have f_v0 : Rep eStr A w v0 p0 := hAe ▸ h0
  replace h0 : R 0 = v0 := hR 0 _ rfl
  clear hR hAe
  refine HT.seq ?_
  refine HT.textR [] (⟨_, true, [], some (.box w0.heap.size 36 E_impl_Test ((0 : Int), ((0 : Int), false))), true, fun A => .any⟩ :: ⟨_, true, [], none, true, fun A => .raw (.bool false)⟩ :: []) (by kernel_rfl) (by kernel_rfl) (Wf.mk' (by kernel_rfl) (UAll.cons ust_any (UAll.cons ust_raw (UAll.nil))) (by kernel_rfl) (by kernel_rfl)) hO hA ?_ ?_
  · exact
      OblsR.cons (OblR.made _ rfl rfl rfl rfl fun A' R' w' ho hd => by exact made_alloc Tryd.zeroValue36 (fun A w => rep_pr rep1_int (rep_pr rep1_int rep1_bool)) (Nat.le_trans hF.size ho.ch.size)) <|
      OblsR.cons (OblR.plain rfl rfl rfl rfl fun A' R' w' ho hd => by exact of_assign rfl) <|
      OblsR.nil
  intro done ρ σ A R w hdn hI
  replace h0 : R 0 = v0 := (hI.reg rfl).trans h0
  obtain ⟨b2_0, e_b2_0⟩ := hI.boxv hdn 0 rfl rfl
  have h2 : R 2 = (.pointer (some ⟨b2_0, 0, none⟩)) := (hI.opvR hdn 0 0 rfl rfl rfl rfl rfl).symm.trans e_b2_0
  replace f_v0 := f_v0.stp hI.stp
  replace hAA := hI.low' hAA hA0 (hO.ge (trivial))
  replace hF : Fr w0 w := hF.tr hI.ch (hO.ge (trivial))
  replace hO : IniOK [ob (.pointer (some ⟨b2_0, 0, none⟩)) (.box w0.heap.size 36 E_impl_Test ((0 : Int), ((0 : Int), false)))] A w := hI.left hdn [(0, ob (.pointer (some ⟨b2_0, 0, none⟩)) (.box w0.heap.size 36 E_impl_Test ((0 : Int), ((0 : Int), false))))] ⟨rfl, rfl, e_b2_0, rfl, rfl, trivial⟩
  replace hA := hI.avok
  clear hI
  refine HT.seq ?_
  obtain ⟨x2, q3, hr⟩ := cl_some hr
  refine HT.text (l := ⟨_, true, .raw v0⟩ :: ⟨_, true, .tup3 (.rep eStr A x2.1) (.rep eStr A x2.2.1) (.raw (.bool x2.2.2))⟩ :: ⟨_, true, .tup3 (.rep eStr A x2.1) (.rep eStr A x2.2.1) (.raw (.bool x2.2.2))⟩ :: ⟨_, true, .rep eStr A x2.1⟩ :: ⟨_, true, .rep eStr A x2.2.1⟩ :: ⟨_, true, .raw (.bool x2.2.2)⟩ :: ⟨_, true, .rep eStr A x2.1⟩ :: ⟨_, true, .rep eStr A x2.2.1⟩ :: ⟨_, true, .raw (.bool x2.2.2)⟩ :: []) (tl := []) (by kernel_rfl) (by kernel_rfl) (by kernel_rfl) ?_ ?_
  · exact
      Obls.cons (Obl.plain rfl rfl fun R' w' hw hs hd => by have a0 : R' 0 = v0 := (hs 0 rfl).trans h0; exact of_move a0) <|
      Obls.cons (Obl.plain rfl rfl fun R' w' hw hs hd => by have a0 : R' 12 = v0 := hd 0 _ _ _ rfl rfl rfl rfl rfl; have ra0 := (f_v0.fr hw).eq a0; exact of_call Tryd.call23 (M_cut_ok (q3 rfl) (hA.fr hw.size) (hG0.fr (hF.trans hw)) ra0 ⟨_, rfl, ⟨_, rfl, rfl, by decide⟩⟩)) <|
      Obls.cons (Obl.plain rfl rfl fun R' w' hw hs hd => by have a0 : Fact.ok (.tup3 (.rep eStr A x2.1) (.rep eStr A x2.2.1) (.raw (.bool x2.2.2))) (R' 13) w' := hd 0 _ _ _ rfl rfl rfl rfl rfl; exact of_move a0) <|
      Obls.cons (Obl.plain rfl rfl fun R' w' hw hs hd => by have a0 : Fact.ok (.tup3 (.rep eStr A x2.1) (.rep eStr A x2.2.1) (.raw (.bool x2.2.2))) (R' 11) w' := hd 0 _ _ _ rfl rfl rfl rfl rfl; exact of_extract3_0 a0) <|
      Obls.cons (Obl.plain rfl rfl fun R' w' hw hs hd => by have a0 : Fact.ok (.tup3 (.rep eStr A x2.1) (.rep eStr A x2.2.1) (.raw (.bool x2.2.2))) (R' 11) w' := hd 0 _ _ _ rfl rfl rfl rfl rfl; exact of_extract3_1 a0) <|
      Obls.cons (Obl.plain rfl rfl fun R' w' hw hs hd => by have a0 : Fact.ok (.tup3 (.rep eStr A x2.1) (.rep eStr A x2.2.1) (.raw (.bool x2.2.2))) (R' 11) w' := hd 0 _ _ _ rfl rfl rfl rfl rfl; exact of_extract3_2 a0) <|
      Obls.cons (Obl.plain rfl rfl fun R' w' hw hs hd => by have a0 : Rep eStr A w' (R' 14) x2.1 := hd 0 _ _ _ rfl rfl rfl rfl rfl; exact of_assign a0) <|
      Obls.cons (Obl.plain rfl rfl fun R' w' hw hs hd => by have a0 : Rep eStr A w' (R' 15) x2.2.1 := hd 0 _ _ _ rfl rfl rfl rfl rfl; exact of_assign a0) <|
      Obls.cons (Obl.plain rfl rfl fun R' w' hw hs hd => by have a0 : R' 16 = .bool x2.2.2 := hd 0 _ _ _ rfl rfl rfl rfl rfl; exact of_assign a0) <|
      Obls.nil
  intro R w hw hs hF'
  replace h0 : R 0 = v0 := (hs 0 rfl).trans h0
  replace h2 : R 2 = (.pointer (some ⟨b2_0, 0, none⟩)) := (hs 2 rfl).trans h2
  obtain ⟨u4, h4, f_u4⟩ : ∃ u, R 4 = u ∧ Rep eStr A w u x2.1 := ⟨_, rfl, hF' 6 _ _ rfl rfl rfl⟩
  obtain ⟨u5, h5, f_u5⟩ : ∃ u, R 5 = u ∧ Rep eStr A w u x2.2.1 := ⟨_, rfl, hF' 7 _ _ rfl rfl rfl⟩
  have h6 : R 6 = .bool x2.2.2 := hF' 8 _ _ rfl rfl rfl
  replace f_v0 := f_v0.fr hw
  replace hO := hO.fr hw
  replace hA := hA.fr hw.size
  replace hF := hF.trans hw
  clear hs hF' hw
  refine seqR_nil ?_
  refine HT.seq ?_
  refine HT.text (l := ⟨_, true, .raw (.bool false)⟩ :: []) (tl := []) (by kernel_rfl) (by kernel_rfl) (by kernel_rfl) ?_ ?_
  · exact
      Obls.cons (Obl.plain rfl rfl fun R' w' hw hs hd => by exact of_assign rfl) <|
      Obls.nil
  intro R w hw hs hF'
  replace h0 : R 0 = v0 := (hs 0 rfl).trans h0
  replace h2 : R 2 = (.pointer (some ⟨b2_0, 0, none⟩)) := (hs 2 rfl).trans h2
  replace h4 : R 4 = u4 := (hs 4 rfl).trans h4
  replace h5 : R 5 = u5 := (hs 5 rfl).trans h5
  replace h6 : R 6 = .bool x2.2.2 := (hs 6 rfl).trans h6
  have h7 : R 7 = .bool false := hF' 0 _ _ rfl rfl rfl
  replace f_u4 := f_u4.fr hw
  replace f_u5 := f_u5.fr hw
  replace f_v0 := f_v0.fr hw
  replace hO := hO.fr hw
  replace hA := hA.fr hw.size
  replace hF := hF.trans hw
  clear hs hF' hw
  refine seqR_nil ?_
  refine HT.seq ?_
  refine HT.seq ?_
  refine HT.text (l := ⟨_, true, .raw (.bool x2.2.2)⟩ :: ⟨_, true, .raw (.bool (!x2.2.2))⟩ :: []) (tl := []) (by kernel_rfl) (by kernel_rfl) (by kernel_rfl) ?_ ?_
  · exact
      Obls.cons (Obl.plain rfl rfl fun R' w' hw hs hd => by have a0 : R' 6 = .bool x2.2.2 := (hs 6 rfl).trans h6; exact of_move a0) <|
      Obls.cons (Obl.plain rfl rfl fun R' w' hw hs hd => by have a0 : R' 17 = .bool x2.2.2 := hd 0 _ _ _ rfl rfl rfl rfl rfl; exact of_not a0) <|
      Obls.nil
  intro R w hw hs hF'
  replace h0 : R 0 = v0 := (hs 0 rfl).trans h0
  replace h2 : R 2 = (.pointer (some ⟨b2_0, 0, none⟩)) := (hs 2 rfl).trans h2
  replace h4 : R 4 = u4 := (hs 4 rfl).trans h4
  replace h5 : R 5 = u5 := (hs 5 rfl).trans h5
  replace h7 : R 7 = .bool false := (hs 7 rfl).trans h7
  have h18 : R 18 = .bool (!x2.2.2) := hF' 1 _ _ rfl rfl rfl
  replace f_u4 := f_u4.fr hw
  replace f_u5 := f_u5.fr hw
  replace f_v0 := f_v0.fr hw
  replace hO := hO.fr hw
  replace hA := hA.fr hw.size
  replace hF := hF.trans hw
  clear hs hF' hw
  refine seqR_nil ?_
  refine HT.cond (!x2.2.2) h18 (fun c6 => ?_) (fun c6 => ?_)
  · have hr := cnd_t c6 hr
    refine HT.seq ?_
    obtain ⟨x7, q8, hr⟩ := cl_some hr
    refine HT.text (l := ⟨_, true, .raw v0⟩ :: ⟨_, true, .tup3 (.rep eStr A x7.1) (.rep eStr A x7.2.1) (.raw (.bool x7.2.2))⟩ :: ⟨_, true, .tup3 (.rep eStr A x7.1) (.rep eStr A x7.2.1) (.raw (.bool x7.2.2))⟩ :: ⟨_, true, .rep eStr A x7.1⟩ :: ⟨_, true, .rep eStr A x7.2.1⟩ :: ⟨_, true, .raw (.bool x7.2.2)⟩ :: ⟨_, true, .rep eStr A x7.1⟩ :: ⟨_, true, .rep eStr A x7.2.1⟩ :: []) (tl := []) (by kernel_rfl) (by kernel_rfl) (by kernel_rfl) ?_ ?_
    · exact
        Obls.cons (Obl.plain rfl rfl fun R' w' hw hs hd => by have a0 : R' 0 = v0 := (hs 0 rfl).trans h0; exact of_move a0) <|
        Obls.cons (Obl.plain rfl rfl fun R' w' hw hs hd => by have a0 : R' 20 = v0 := hd 0 _ _ _ rfl rfl rfl rfl rfl; have ra0 := (f_v0.fr hw).eq a0; exact of_call Tryd.call23 (M_cut_ok (q8 rfl) (hA.fr hw.size) (hG0.fr (hF.trans hw)) ra0 ⟨_, rfl, ⟨_, rfl, rfl, by decide⟩⟩)) <|
        Obls.cons (Obl.plain rfl rfl fun R' w' hw hs hd => by have a0 : Fact.ok (.tup3 (.rep eStr A x7.1) (.rep eStr A x7.2.1) (.raw (.bool x7.2.2))) (R' 21) w' := hd 0 _ _ _ rfl rfl rfl rfl rfl; exact of_move a0) <|
        Obls.cons (Obl.plain rfl rfl fun R' w' hw hs hd => by have a0 : Fact.ok (.tup3 (.rep eStr A x7.1) (.rep eStr A x7.2.1) (.raw (.bool x7.2.2))) (R' 19) w' := hd 0 _ _ _ rfl rfl rfl rfl rfl; exact of_extract3_0 a0) <|
        Obls.cons (Obl.plain rfl rfl fun R' w' hw hs hd => by have a0 : Fact.ok (.tup3 (.rep eStr A x7.1) (.rep eStr A x7.2.1) (.raw (.bool x7.2.2))) (R' 19) w' := hd 0 _ _ _ rfl rfl rfl rfl rfl; exact of_extract3_1 a0) <|
        Obls.cons (Obl.plain rfl rfl fun R' w' hw hs hd => by have a0 : Fact.ok (.tup3 (.rep eStr A x7.1) (.rep eStr A x7.2.1) (.raw (.bool x7.2.2))) (R' 19) w' := hd 0 _ _ _ rfl rfl rfl rfl rfl; exact of_extract3_2 a0) <|
        Obls.cons (Obl.plain rfl rfl fun R' w' hw hs hd => by have a0 : Rep eStr A w' (R' 22) x7.1 := hd 0 _ _ _ rfl rfl rfl rfl rfl; exact of_assign a0) <|
        Obls.cons (Obl.plain rfl rfl fun R' w' hw hs hd => by have a0 : Rep eStr A w' (R' 23) x7.2.1 := hd 0 _ _ _ rfl rfl rfl rfl rfl; exact of_assign a0) <|
        Obls.nil
    intro R w hw hs hF'
    replace h2 : R 2 = (.pointer (some ⟨b2_0, 0, none⟩)) := (hs 2 rfl).trans h2
    obtain ⟨u9, h4, f_u9⟩ : ∃ u, R 4 = u ∧ Rep eStr A w u x7.1 := ⟨_, rfl, hF' 6 _ _ rfl rfl rfl⟩
    obtain ⟨u10, h5, f_u10⟩ : ∃ u, R 5 = u ∧ Rep eStr A w u x7.2.1 := ⟨_, rfl, hF' 7 _ _ rfl rfl rfl⟩
    replace hO := hO.fr hw
    replace hA := hA.fr hw.size
    replace hF := hF.trans hw
    clear hs hF' hw
    refine seqR_nil ?_
    refine HT.text (l := ⟨_, true, .raw (.bool true)⟩ :: []) (tl := []) (by kernel_rfl) (by kernel_rfl) (by kernel_rfl) ?_ ?_
    · exact
        Obls.cons (Obl.plain rfl rfl fun R' w' hw hs hd => by exact of_assign rfl) <|
        Obls.nil
    intro R w hw hs hF'
    replace h2 : R 2 = (.pointer (some ⟨b2_0, 0, none⟩)) := (hs 2 rfl).trans h2
    replace h4 : R 4 = u9 := (hs 4 rfl).trans h4
    replace h5 : R 5 = u10 := (hs 5 rfl).trans h5
    have h7 : R 7 = .bool true := hF' 0 _ _ rfl rfl rfl
    replace f_u10 := f_u10.fr hw
    replace f_u9 := f_u9.fr hw
    replace hO := hO.fr hw
    replace hA := hA.fr hw.size
    replace hF := hF.trans hw
    clear hs hF' hw
    refine seqR_nil ?_
    refine HT.seq ?_
    obtain ⟨x11, q12, hr⟩ := cl_some hr
    refine HT.text (l := ⟨_, true, .raw u10⟩ :: ⟨_, true, .tup2 (.raw (.int .i64 x11.1)) (.raw (.bool x11.2))⟩ :: ⟨_, true, .tup2 (.raw (.int .i64 x11.1)) (.raw (.bool x11.2))⟩ :: ⟨_, true, .raw (.int .i64 x11.1)⟩ :: ⟨_, true, .raw (.bool x11.2)⟩ :: ⟨_, true, .raw (.int .i64 x11.1)⟩ :: ⟨_, true, .raw (.bool x11.2)⟩ :: []) (tl := []) (by kernel_rfl) (by kernel_rfl) (by kernel_rfl) ?_ ?_
    · exact
        Obls.cons (Obl.plain rfl rfl fun R' w' hw hs hd => by have a0 : R' 5 = u10 := (hs 5 rfl).trans h5; exact of_move a0) <|
        Obls.cons (Obl.plain rfl rfl fun R' w' hw hs hd => by have a0 : R' 26 = u10 := hd 0 _ _ _ rfl rfl rfl rfl rfl; have ra0 := (f_u10.fr hw).eq a0; exact of_call Tryd.call24 (M_impl_ParseInt_ok (q12 rfl) (hA.fr hw.size) (hG0.fr (hF.trans hw)) ra0)) <|
        Obls.cons (Obl.plain rfl rfl fun R' w' hw hs hd => by have a0 : Fact.ok (.tup2 (.raw (.int .i64 x11.1)) (.raw (.bool x11.2))) (R' 27) w' := hd 0 _ _ _ rfl rfl rfl rfl rfl; exact of_move a0) <|
        Obls.cons (Obl.plain rfl rfl fun R' w' hw hs hd => by have a0 : Fact.ok (.tup2 (.raw (.int .i64 x11.1)) (.raw (.bool x11.2))) (R' 25) w' := hd 0 _ _ _ rfl rfl rfl rfl rfl; exact of_extract2_0 a0) <|
        Obls.cons (Obl.plain rfl rfl fun R' w' hw hs hd => by have a0 : Fact.ok (.tup2 (.raw (.int .i64 x11.1)) (.raw (.bool x11.2))) (R' 25) w' := hd 0 _ _ _ rfl rfl rfl rfl rfl; exact of_extract2_1 a0) <|
        Obls.cons (Obl.plain rfl rfl fun R' w' hw hs hd => by have a0 : R' 28 = .int .i64 x11.1 := hd 0 _ _ _ rfl rfl rfl rfl rfl; exact of_assign a0) <|
        Obls.cons (Obl.plain rfl rfl fun R' w' hw hs hd => by have a0 : R' 29 = .bool x11.2 := hd 0 _ _ _ rfl rfl rfl rfl rfl; exact of_assign a0) <|
        Obls.nil
    intro R w hw hs hF'
    replace h2 : R 2 = (.pointer (some ⟨b2_0, 0, none⟩)) := (hs 2 rfl).trans h2
    replace h4 : R 4 = u9 := (hs 4 rfl).trans h4
    replace h7 : R 7 = .bool true := (hs 7 rfl).trans h7
    have h8 : R 8 = .int .i64 x11.1 := hF' 5 _ _ rfl rfl rfl
    have h9 : R 9 = .bool x11.2 := hF' 6 _ _ rfl rfl rfl
    replace f_u9 := f_u9.fr hw
    replace hO := hO.fr hw
    replace hA := hA.fr hw.size
    replace hF := hF.trans hw
    clear hs hF' hw
    refine seqR_nil ?_
    refine HT.seq ?_
    obtain ⟨x13, q14, hr⟩ := cl_some hr
    refine HT.text (l := ⟨_, true, .raw (.slice (some ⟨0, 0, none⟩) 6 6)⟩ :: ⟨_, true, .raw u9⟩ :: ⟨_, true, .raw (.int .i64 x13)⟩ :: ⟨_, true, .raw (.int .i64 x13)⟩ :: []) (tl := []) (by kernel_rfl) (by kernel_rfl) (by kernel_rfl) ?_ ?_
    · exact
        Obls.cons (Obl.plain rfl rfl fun R' w' hw hs hd => by exact of_slice_g Tryd.underlying52 Tryd.sizeOf9 (by decide)) <|
        Obls.cons (Obl.plain rfl rfl fun R' w' hw hs hd => by have a0 : R' 4 = u9 := (hs 4 rfl).trans h4; exact of_move a0) <|
        Obls.cons (Obl.plain rfl rfl fun R' w' hw hs hd => by have a0 : R' 30 = (.slice (some ⟨0, 0, none⟩) 6 6) := hd 0 _ _ _ rfl rfl rfl rfl rfl; have a1 : R' 31 = u9 := hd 1 _ _ _ rfl rfl rfl rfl rfl; have ra1 := (f_u9.fr hw).eq a1; exact of_call Tryd.call25 (M_slices_Index_string_string_ok (q14 rfl) (fun _ _ h => h.elim) ((hG0.fr (hF.trans hw)).featSl a0) (ra1.less fun _ _ h => h.elim))) <|
        Obls.cons (Obl.plain rfl rfl fun R' w' hw hs hd => by have a0 : R' 32 = .int .i64 x13 := hd 0 _ _ _ rfl rfl rfl rfl rfl; exact of_assign a0) <|
        Obls.nil
    intro R w hw hs hF'
    replace h2 : R 2 = (.pointer (some ⟨b2_0, 0, none⟩)) := (hs 2 rfl).trans h2
    replace h7 : R 7 = .bool true := (hs 7 rfl).trans h7
    replace h8 : R 8 = .int .i64 x11.1 := (hs 8 rfl).trans h8
    replace h9 : R 9 = .bool x11.2 := (hs 9 rfl).trans h9
    have h10 : R 10 = .int .i64 x13 := hF' 3 _ _ rfl rfl rfl
    replace hO := hO.fr hw
    replace hA := hA.fr hw.size
    replace hF := hF.trans hw
    clear hs hF' hw
    refine seqR_nil ?_
    refine HT.seq ?_
    obtain ⟨x15, q16, hr⟩ := bd_some hr
    refine HT.textR [ob (.pointer (some ⟨b2_0, 0, none⟩)) (.box w0.heap.size 36 E_impl_Test ((0 : Int), ((0 : Int), false)))] (⟨_, true, [], none, true, fun A => .raw (.int .i64 x13)⟩ :: ⟨_, true, [], none, true, fun A => .raw (.int .i64 x11.1)⟩ :: ⟨_, true, [], none, true, fun A => .raw (.bool true)⟩ :: ⟨_, true, [], none, true, fun A => .rep E_impl_Test A (x13, x11.1, true)⟩ :: ⟨_, true, [], none, true, fun A => .raw (.bool x11.2)⟩ :: ⟨_, true, [], none, true, fun A => .raw (.bool x11.2)⟩ :: ⟨_, (true && (x11.2 == true)), [], none, true, fun A => .raw (.int .i64 x13)⟩ :: ⟨_, (true && (x11.2 == true)), [], none, true, fun A => .raw (.bool (decide ((0 : Int) ≤ x13)))⟩ :: ⟨_, true, [], none, true, fun A => .raw (.bool x15)⟩ :: ⟨_, true, [0], some (.box w0.heap.size 36 E_impl_Test (x13, x11.1, true)), false, fun A => .any⟩ :: ⟨_, true, [], none, true, fun A => .raw (.bool x15)⟩ :: []) (by kernel_rfl) (by kernel_rfl) (Wf.mk' (by kernel_rfl) (UAll.cons ust_raw (UAll.cons ust_raw (UAll.cons ust_raw (UAll.cons ust_rep (UAll.cons ust_raw (UAll.cons ust_raw (UAll.cons ust_raw (UAll.cons ust_raw (UAll.cons ust_raw (UAll.cons ust_any (UAll.cons ust_raw (UAll.nil)))))))))))) (by kernel_rfl) (by kernel_rfl)) hO hA ?_ ?_
    · exact
        OblsR.cons (OblR.plain rfl rfl rfl rfl fun A' R' w' ho hd => by have a0 : R' 10 = .int .i64 x13 := (ho.old 10 rfl).trans h10; exact of_move a0) <|
        OblsR.cons (OblR.plain rfl rfl rfl rfl fun A' R' w' ho hd => by have a0 : R' 8 = .int .i64 x11.1 := (ho.old 8 rfl).trans h8; exact of_move a0) <|
        OblsR.cons (OblR.plain rfl rfl rfl rfl fun A' R' w' ho hd => by have a0 : R' 7 = .bool true := (ho.old 7 rfl).trans h7; exact of_move a0) <|
        OblsR.cons (OblR.plain rfl rfl rfl rfl fun A' R' w' ho hd => by have a0 : R' 33 = .int .i64 x13 := hd 0 _ _ _ rfl rfl rfl rfl rfl; have a1 : R' 34 = .int .i64 x11.1 := hd 1 _ _ _ rfl rfl rfl rfl rfl; have a2 : R' 35 = .bool true := hd 2 _ _ _ rfl rfl rfl rfl rfl; exact of_build_raw (v := .agg #[.int .i64 x13, .int .i64 x11.1, .bool true]) (by simp [execOp, Instr.build, evalR, a0, a1, a2, underlying, Tryd.underlying36, Tryd.zeroValue36, Tryd.sizeOf3, Tryd.sizeOf4, go_sem, Instr.fill]) ⟨_, rfl, rep_pr rep1_int (rep_pr rep1_int rep1_bool)⟩) <|
        OblsR.cons (OblR.plain rfl rfl rfl rfl fun A' R' w' ho hd => by have a0 : R' 9 = .bool x11.2 := (ho.old 9 rfl).trans h9; exact of_move a0) <|
        OblsR.cons (OblR.plain rfl rfl rfl rfl fun A' R' w' ho hd => by have a0 : R' 37 = .bool x11.2 := hd 0 _ _ _ rfl rfl rfl rfl rfl; exact of_move a0) <|
        OblsR.cons (OblR.grd 5 true _ _ _ rfl rfl rfl rfl rfl (fun _ => rfl) rfl rfl fun hg A' R' w' ho hd => by have a0 : R' 10 = .int .i64 x13 := (ho.old 10 rfl).trans h10; exact of_move a0) <|
        OblsR.cons (OblR.grd 5 true _ _ _ rfl rfl rfl rfl rfl (fun _ => rfl) rfl rfl fun hg A' R' w' ho hd => by have a0 : R' 39 = .int .i64 x13 := hd 0 _ _ _ rfl rfl rfl rfl hg; exact of_geq a0 rfl) <|
        OblsR.cons (OblR.plain rfl rfl rfl rfl fun A' R' w' ho hd => by have a0 : R' 38 = .bool x11.2 := hd 0 _ _ _ rfl rfl rfl rfl rfl; exact of_pick x11.2 a0 (fun hc => by have a1 : R' 40 = .bool (decide ((0 : Int) ≤ x13)) := hd 1 _ _ _ rfl rfl rfl rfl (g_and rfl (beq_of hc)); show _ = Value.bool x15; rw [q16, hc]; exact a1) (fun hc => by show _ = Value.bool x15; rw [q16, hc]; exact rfl)) <|
        OblsR.cons (OblR.took 0 _ _ rfl rfl rfl rfl rfl fun A' R' w' ho hd u hok hav hin hop hds => by have a0 : R' 2 = (.pointer (some ⟨b2_0, 0, none⟩)) := (ho.old 2 rfl).trans h2; have a1 : Rep E_impl_Test A' w' (R' 36) (x13, x11.1, true) := hd 0 _ _ _ rfl rfl rfl rfl rfl; exact took_store a1 a0 (hin _ rfl) hok hav (FldS.id _) Tryd.sizeOf36 rfl) <|
        OblsR.cons (OblR.plain rfl rfl rfl rfl fun A' R' w' ho hd => by have a0 : R' 41 = .bool x15 := hd 0 _ _ _ rfl rfl rfl rfl rfl; exact of_assign a0) <|
        OblsR.nil
    intro done ρ σ A R w hdn hI
    replace h2 : R 2 = (.pointer (some ⟨b2_0, 0, none⟩)) := (hI.reg rfl).trans h2
    have z17 := hI.inivR 0 rfl
    have z18 := (hI.opnR hdn 10 9 rfl rfl rfl rfl rfl).trans z17
    have h3 : R 3 = .bool x15 := hI.fact hdn (i := 10) rfl rfl rfl
    replace hAA := hI.low' hAA hA0 (hO.ge (⟨rfl, trivial⟩))
    replace hF : Fr w0 w := hF.tr hI.ch (hO.ge (⟨rfl, trivial⟩))
    replace hO : IniOK [ob (.pointer (some ⟨b2_0, 0, none⟩)) (.box w0.heap.size 36 E_impl_Test (x13, x11.1, true))] A w := hI.left hdn [(10, ob (.pointer (some ⟨b2_0, 0, none⟩)) (.box w0.heap.size 36 E_impl_Test (x13, x11.1, true)))] ⟨rfl, rfl, z18, rfl, rfl, trivial⟩
    replace hA := hI.avok
    clear hI
    refine HT.ret ?_
    obtain rfl := Option.some.inj hr
    obtain ⟨v_2, e_2, p_2⟩ := res_cell (hO.ok 0 _ rfl).1 h2 Tryd.isAgg36 Tryd.sizeOf36 hAA
    exact ⟨.inr rfl, [v_2, R 3], ⟨e_2, ⟨rfl, trivial⟩⟩, ⟨_, _, rfl, p_2, h3⟩, hF⟩
  · have hr := cnd_f c6 hr
    refine HT.skip ?_
    refine HT.seq ?_
    obtain ⟨x19, q20, hr⟩ := cl_some hr
    refine HT.text (l := ⟨_, true, .raw u5⟩ :: ⟨_, true, .tup2 (.raw (.int .i64 x19.1)) (.raw (.bool x19.2))⟩ :: ⟨_, true, .tup2 (.raw (.int .i64 x19.1)) (.raw (.bool x19.2))⟩ :: ⟨_, true, .raw (.int .i64 x19.1)⟩ :: ⟨_, true, .raw (.bool x19.2)⟩ :: ⟨_, true, .raw (.int .i64 x19.1)⟩ :: ⟨_, true, .raw (.bool x19.2)⟩ :: []) (tl := []) (by kernel_rfl) (by kernel_rfl) (by kernel_rfl) ?_ ?_
    · exact
        Obls.cons (Obl.plain rfl rfl fun R' w' hw hs hd => by have a0 : R' 5 = u5 := (hs 5 rfl).trans h5; exact of_move a0) <|
        Obls.cons (Obl.plain rfl rfl fun R' w' hw hs hd => by have a0 : R' 26 = u5 := hd 0 _ _ _ rfl rfl rfl rfl rfl; have ra0 := (f_u5.fr hw).eq a0; exact of_call Tryd.call24 (M_impl_ParseInt_ok (q20 rfl) (hA.fr hw.size) (hG0.fr (hF.trans hw)) ra0)) <|
        Obls.cons (Obl.plain rfl rfl fun R' w' hw hs hd => by have a0 : Fact.ok (.tup2 (.raw (.int .i64 x19.1)) (.raw (.bool x19.2))) (R' 27) w' := hd 0 _ _ _ rfl rfl rfl rfl rfl; exact of_move a0) <|
        Obls.cons (Obl.plain rfl rfl fun R' w' hw hs hd => by have a0 : Fact.ok (.tup2 (.raw (.int .i64 x19.1)) (.raw (.bool x19.2))) (R' 25) w' := hd 0 _ _ _ rfl rfl rfl rfl rfl; exact of_extract2_0 a0) <|
        Obls.cons (Obl.plain rfl rfl fun R' w' hw hs hd => by have a0 : Fact.ok (.tup2 (.raw (.int .i64 x19.1)) (.raw (.bool x19.2))) (R' 25) w' := hd 0 _ _ _ rfl rfl rfl rfl rfl; exact of_extract2_1 a0) <|
        Obls.cons (Obl.plain rfl rfl fun R' w' hw hs hd => by have a0 : R' 28 = .int .i64 x19.1 := hd 0 _ _ _ rfl rfl rfl rfl rfl; exact of_assign a0) <|
        Obls.cons (Obl.plain rfl rfl fun R' w' hw hs hd => by have a0 : R' 29 = .bool x19.2 := hd 0 _ _ _ rfl rfl rfl rfl rfl; exact of_assign a0) <|
        Obls.nil
    intro R w hw hs hF'
    replace h2 : R 2 = (.pointer (some ⟨b2_0, 0, none⟩)) := (hs 2 rfl).trans h2
    replace h4 : R 4 = u4 := (hs 4 rfl).trans h4
    replace h7 : R 7 = .bool false := (hs 7 rfl).trans h7
    have h8 : R 8 = .int .i64 x19.1 := hF' 5 _ _ rfl rfl rfl
    have h9 : R 9 = .bool x19.2 := hF' 6 _ _ rfl rfl rfl
    replace f_u4 := f_u4.fr hw
    replace hO := hO.fr hw
    replace hA := hA.fr hw.size
    replace hF := hF.trans hw
    clear hs hF' hw
    refine seqR_nil ?_
    refine HT.seq ?_
    obtain ⟨x21, q22, hr⟩ := cl_some hr
    refine HT.text (l := ⟨_, true, .raw (.slice (some ⟨0, 0, none⟩) 6 6)⟩ :: ⟨_, true, .raw u4⟩ :: ⟨_, true, .raw (.int .i64 x21)⟩ :: ⟨_, true, .raw (.int .i64 x21)⟩ :: []) (tl := []) (by kernel_rfl) (by kernel_rfl) (by kernel_rfl) ?_ ?_
    · exact
        Obls.cons (Obl.plain rfl rfl fun R' w' hw hs hd => by exact of_slice_g Tryd.underlying52 Tryd.sizeOf9 (by decide)) <|
        Obls.cons (Obl.plain rfl rfl fun R' w' hw hs hd => by have a0 : R' 4 = u4 := (hs 4 rfl).trans h4; exact of_move a0) <|
        Obls.cons (Obl.plain rfl rfl fun R' w' hw hs hd => by have a0 : R' 30 = (.slice (some ⟨0, 0, none⟩) 6 6) := hd 0 _ _ _ rfl rfl rfl rfl rfl; have a1 : R' 31 = u4 := hd 1 _ _ _ rfl rfl rfl rfl rfl; have ra1 := (f_u4.fr hw).eq a1; exact of_call Tryd.call25 (M_slices_Index_string_string_ok (q22 rfl) (fun _ _ h => h.elim) ((hG0.fr (hF.trans hw)).featSl a0) (ra1.less fun _ _ h => h.elim))) <|
        Obls.cons (Obl.plain rfl rfl fun R' w' hw hs hd => by have a0 : R' 32 = .int .i64 x21 := hd 0 _ _ _ rfl rfl rfl rfl rfl; exact of_assign a0) <|
        Obls.nil
    intro R w hw hs hF'
    replace h2 : R 2 = (.pointer (some ⟨b2_0, 0, none⟩)) := (hs 2 rfl).trans h2
    replace h7 : R 7 = .bool false := (hs 7 rfl).trans h7
    replace h8 : R 8 = .int .i64 x19.1 := (hs 8 rfl).trans h8
    replace h9 : R 9 = .bool x19.2 := (hs 9 rfl).trans h9
    have h10 : R 10 = .int .i64 x21 := hF' 3 _ _ rfl rfl rfl
    replace hO := hO.fr hw
    replace hA := hA.fr hw.size
    replace hF := hF.trans hw
    clear hs hF' hw
    refine seqR_nil ?_
    refine HT.seq ?_
    obtain ⟨x23, q24, hr⟩ := bd_some hr
    refine HT.textR [ob (.pointer (some ⟨b2_0, 0, none⟩)) (.box w0.heap.size 36 E_impl_Test ((0 : Int), ((0 : Int), false)))] (⟨_, true, [], none, true, fun A => .raw (.int .i64 x21)⟩ :: ⟨_, true, [], none, true, fun A => .raw (.int .i64 x19.1)⟩ :: ⟨_, true, [], none, true, fun A => .raw (.bool false)⟩ :: ⟨_, true, [], none, true, fun A => .rep E_impl_Test A (x21, x19.1, false)⟩ :: ⟨_, true, [], none, true, fun A => .raw (.bool x19.2)⟩ :: ⟨_, true, [], none, true, fun A => .raw (.bool x19.2)⟩ :: ⟨_, (true && (x19.2 == true)), [], none, true, fun A => .raw (.int .i64 x21)⟩ :: ⟨_, (true && (x19.2 == true)), [], none, true, fun A => .raw (.bool (decide ((0 : Int) ≤ x21)))⟩ :: ⟨_, true, [], none, true, fun A => .raw (.bool x23)⟩ :: ⟨_, true, [0], some (.box w0.heap.size 36 E_impl_Test (x21, x19.1, false)), false, fun A => .any⟩ :: ⟨_, true, [], none, true, fun A => .raw (.bool x23)⟩ :: []) (by kernel_rfl) (by kernel_rfl) (Wf.mk' (by kernel_rfl) (UAll.cons ust_raw (UAll.cons ust_raw (UAll.cons ust_raw (UAll.cons ust_rep (UAll.cons ust_raw (UAll.cons ust_raw (UAll.cons ust_raw (UAll.cons ust_raw (UAll.cons ust_raw (UAll.cons ust_any (UAll.cons ust_raw (UAll.nil)))))))))))) (by kernel_rfl) (by kernel_rfl)) hO hA ?_ ?_
    · exact
        OblsR.cons (OblR.plain rfl rfl rfl rfl fun A' R' w' ho hd => by have a0 : R' 10 = .int .i64 x21 := (ho.old 10 rfl).trans h10; exact of_move a0) <|
        OblsR.cons (OblR.plain rfl rfl rfl rfl fun A' R' w' ho hd => by have a0 : R' 8 = .int .i64 x19.1 := (ho.old 8 rfl).trans h8; exact of_move a0) <|
        OblsR.cons (OblR.plain rfl rfl rfl rfl fun A' R' w' ho hd => by have a0 : R' 7 = .bool false := (ho.old 7 rfl).trans h7; exact of_move a0) <|
        OblsR.cons (OblR.plain rfl rfl rfl rfl fun A' R' w' ho hd => by have a0 : R' 33 = .int .i64 x21 := hd 0 _ _ _ rfl rfl rfl rfl rfl; have a1 : R' 34 = .int .i64 x19.1 := hd 1 _ _ _ rfl rfl rfl rfl rfl; have a2 : R' 35 = .bool false := hd 2 _ _ _ rfl rfl rfl rfl rfl; exact of_build_raw (v := .agg #[.int .i64 x21, .int .i64 x19.1, .bool false]) (by simp [execOp, Instr.build, evalR, a0, a1, a2, underlying, Tryd.underlying36, Tryd.zeroValue36, Tryd.sizeOf3, Tryd.sizeOf4, go_sem, Instr.fill]) ⟨_, rfl, rep_pr rep1_int (rep_pr rep1_int rep1_bool)⟩) <|
        OblsR.cons (OblR.plain rfl rfl rfl rfl fun A' R' w' ho hd => by have a0 : R' 9 = .bool x19.2 := (ho.old 9 rfl).trans h9; exact of_move a0) <|
        OblsR.cons (OblR.plain rfl rfl rfl rfl fun A' R' w' ho hd => by have a0 : R' 37 = .bool x19.2 := hd 0 _ _ _ rfl rfl rfl rfl rfl; exact of_move a0) <|
        OblsR.cons (OblR.grd 5 true _ _ _ rfl rfl rfl rfl rfl (fun _ => rfl) rfl rfl fun hg A' R' w' ho hd => by have a0 : R' 10 = .int .i64 x21 := (ho.old 10 rfl).trans h10; exact of_move a0) <|
        OblsR.cons (OblR.grd 5 true _ _ _ rfl rfl rfl rfl rfl (fun _ => rfl) rfl rfl fun hg A' R' w' ho hd => by have a0 : R' 39 = .int .i64 x21 := hd 0 _ _ _ rfl rfl rfl rfl hg; exact of_geq a0 rfl) <|
        OblsR.cons (OblR.plain rfl rfl rfl rfl fun A' R' w' ho hd => by have a0 : R' 38 = .bool x19.2 := hd 0 _ _ _ rfl rfl rfl rfl rfl; exact of_pick x19.2 a0 (fun hc => by have a1 : R' 40 = .bool (decide ((0 : Int) ≤ x21)) := hd 1 _ _ _ rfl rfl rfl rfl (g_and rfl (beq_of hc)); show _ = Value.bool x23; rw [q24, hc]; exact a1) (fun hc => by show _ = Value.bool x23; rw [q24, hc]; exact rfl)) <|
        OblsR.cons (OblR.took 0 _ _ rfl rfl rfl rfl rfl fun A' R' w' ho hd u hok hav hin hop hds => by have a0 : R' 2 = (.pointer (some ⟨b2_0, 0, none⟩)) := (ho.old 2 rfl).trans h2; have a1 : Rep E_impl_Test A' w' (R' 36) (x21, x19.1, false) := hd 0 _ _ _ rfl rfl rfl rfl rfl; exact took_store a1 a0 (hin _ rfl) hok hav (FldS.id _) Tryd.sizeOf36 rfl) <|
        OblsR.cons (OblR.plain rfl rfl rfl rfl fun A' R' w' ho hd => by have a0 : R' 41 = .bool x23 := hd 0 _ _ _ rfl rfl rfl rfl rfl; exact of_assign a0) <|
        OblsR.nil
    intro done ρ σ A R w hdn hI
    replace h2 : R 2 = (.pointer (some ⟨b2_0, 0, none⟩)) := (hI.reg rfl).trans h2
    have z25 := hI.inivR 0 rfl
    have z26 := (hI.opnR hdn 10 9 rfl rfl rfl rfl rfl).trans z25
    have h3 : R 3 = .bool x23 := hI.fact hdn (i := 10) rfl rfl rfl
    replace hAA := hI.low' hAA hA0 (hO.ge (⟨rfl, trivial⟩))
    replace hF : Fr w0 w := hF.tr hI.ch (hO.ge (⟨rfl, trivial⟩))
    replace hO : IniOK [ob (.pointer (some ⟨b2_0, 0, none⟩)) (.box w0.heap.size 36 E_impl_Test (x21, x19.1, false))] A w := hI.left hdn [(10, ob (.pointer (some ⟨b2_0, 0, none⟩)) (.box w0.heap.size 36 E_impl_Test (x21, x19.1, false)))] ⟨rfl, rfl, z26, rfl, rfl, trivial⟩
    replace hA := hI.avok
    clear hI
    refine HT.ret ?_
    obtain rfl := Option.some.inj hr
    obtain ⟨v_2, e_2, p_2⟩ := res_cell (hO.ok 0 _ rfl).1 h2 Tryd.isAgg36 Tryd.sizeOf36 hAA
    exact ⟨.inr rfl, [v_2, R 3], ⟨e_2, ⟨rfl, trivial⟩⟩, ⟨_, _, rfl, p_2, h3⟩, hF⟩
def M_impl_isFeature (fu : Nat) (p0 : Int) : Option Bool :=
  cl true (M_impl_within fu p0 (0 : Int) (5 : Int)) fun x1 =>
  some x1
set_option maxRecDepth 100000 in
set_option maxHeartbeats 4000000 in
theorem M_impl_isFeature_ok {fu : Nat} {A : Av} {p0 : Int} {r : Bool} (hr : M_impl_isFeature fu p0 = some r) {w : World} {v0 : Value} (hA : AvOK A w) (h0 : v0 = .int .i64 p0) :
    Calls Tryd.prog 40 #[v0] w fun e w' => ∃ v, e = .returned v ∧ (v = .bool r ∧ Fr w w') := by
  unfold M_impl_isFeature at hr
  obtain ⟨w0, hw0⟩ : ∃ w0, w0 = w := ⟨_, rfl⟩
  have hF : Fr w0 w := hw0 ▸ Fr.refl _
  rw [show Fr w = Fr w0 from hw0 ▸ rfl]
  clear hw0
  refine calls_of_HT2 [.tmp 2] Tryd.func40 Tryd.ntmps40 (by decide) rfl rfl (Nat.le_of_ble_eq_true rfl) ?_
  intro R hR
  replace h0 : R 0 = .int .i64 p0 := (hR 0 _ rfl).trans h0
  clear hR
  refine HT.seq ?_
  refine HT.text (l := ⟨_, true, .raw (.bool false)⟩ :: []) (tl := []) (by kernel_rfl) (by kernel_rfl) (by kernel_rfl) ?_ ?_
  · exact
      Obls.cons (Obl.plain rfl rfl fun R' w' hw hs hd => by exact of_assign rfl) <|
      Obls.nil
  intro R w hw hs hF'
  replace h0 : R 0 = .int .i64 p0 := (hs 0 rfl).trans h0
  replace hA := hA.fr hw.size
  replace hF := hF.trans hw
  clear hs hF' hw
  refine seqR_nil ?_
  refine HT.seq ?_
  obtain ⟨x1, q2, hr⟩ := cl_some hr
  refine HT.text (l := ⟨_, true, .raw (.int .i64 p0)⟩ :: ⟨_, true, .raw (.bool x1)⟩ :: ⟨_, true, .raw (.bool x1)⟩ :: []) (tl := []) (by kernel_rfl) (by kernel_rfl) (by kernel_rfl) ?_ ?_
  · exact
      Obls.cons (Obl.plain rfl rfl fun R' w' hw hs hd => by have a0 : R' 0 = .int .i64 p0 := (hs 0 rfl).trans h0; exact of_move a0) <|
      Obls.cons (Obl.plain rfl rfl fun R' w' hw hs hd => by have a0 : R' 3 = .int .i64 p0 := hd 0 _ _ _ rfl rfl rfl rfl rfl; exact of_call Tryd.call39 (M_impl_within_ok (q2 rfl) (hA.fr hw.size) a0 rfl rfl)) <|
      Obls.cons (Obl.plain rfl rfl fun R' w' hw hs hd => by have a0 : R' 4 = .bool x1 := hd 0 _ _ _ rfl rfl rfl rfl rfl; exact of_assign a0) <|
      Obls.nil
  intro R w hw hs hF'
  have h2 : R 2 = .bool x1 := hF' 2 _ _ rfl rfl rfl
  replace hA := hA.fr hw.size
  replace hF := hF.trans hw
  clear hs hF' hw
  refine seqR_nil ?_
  refine HT.ret ?_
  obtain rfl := Option.some.inj hr
  exact ⟨.inr rfl, [R 2], ⟨rfl, trivial⟩, h2, hF⟩
def M_impl_isThreshold (fu : Nat) (p0 : Int) : Option Bool :=
  cl true (M_impl_within fu p0 (1 : Int) (1000 : Int)) fun x1 =>
  some x1
set_option maxRecDepth 100000 in
set_option maxHeartbeats 4000000 in
theorem M_impl_isThreshold_ok {fu : Nat} {A : Av} {p0 : Int} {r : Bool} (hr : M_impl_isThreshold fu p0 = some r) {w : World} {v0 : Value} (hA : AvOK A w) (h0 : v0 = .int .i64 p0) :
    Calls Tryd.prog 41 #[v0] w fun e w' => ∃ v, e = .returned v ∧ (v = .bool r ∧ Fr w w') := by
  unfold M_impl_isThreshold at hr
  obtain ⟨w0, hw0⟩ : ∃ w0, w0 = w := ⟨_, rfl⟩
  have hF : Fr w0 w := hw0 ▸ Fr.refl _
  rw [show Fr w = Fr w0 from hw0 ▸ rfl]
  clear hw0
  refine calls_of_HT2 [.tmp 2] Tryd.func41 Tryd.ntmps41 (by decide) rfl rfl (Nat.le_of_ble_eq_true rfl) ?_
  intro R hR
  replace h0 : R 0 = .int .i64 p0 := (hR 0 _ rfl).trans h0
  clear hR
  refine HT.seq ?_
  refine HT.text (l := ⟨_, true, .raw (.bool false)⟩ :: []) (tl := []) (by kernel_rfl) (by kernel_rfl) (by kernel_rfl) ?_ ?_
  · exact
      Obls.cons (Obl.plain rfl rfl fun R' w' hw hs hd => by exact of_assign rfl) <|
      Obls.nil
  intro R w hw hs hF'
  replace h0 : R 0 = .int .i64 p0 := (hs 0 rfl).trans h0
  replace hA := hA.fr hw.size
  replace hF := hF.trans hw
  clear hs hF' hw
  refine seqR_nil ?_
  refine HT.seq ?_
  obtain ⟨x1, q2, hr⟩ := cl_some hr
  refine HT.text (l := ⟨_, true, .raw (.int .i64 p0)⟩ :: ⟨_, true, .raw (.bool x1)⟩ :: ⟨_, true, .raw (.bool x1)⟩ :: []) (tl := []) (by kernel_rfl) (by kernel_rfl) (by kernel_rfl) ?_ ?_
  · exact
      Obls.cons (Obl.plain rfl rfl fun R' w' hw hs hd => by have a0 : R' 0 = .int .i64 p0 := (hs 0 rfl).trans h0; exact of_move a0) <|
      Obls.cons (Obl.plain rfl rfl fun R' w' hw hs hd => by have a0 : R' 3 = .int .i64 p0 := hd 0 _ _ _ rfl rfl rfl rfl rfl; exact of_call Tryd.call39 (M_impl_within_ok (q2 rfl) (hA.fr hw.size) a0 rfl rfl)) <|
      Obls.cons (Obl.plain rfl rfl fun R' w' hw hs hd => by have a0 : R' 4 = .bool x1 := hd 0 _ _ _ rfl rfl rfl rfl rfl; exact of_assign a0) <|
      Obls.nil
  intro R w hw hs hF'
  have h2 : R 2 = .bool x1 := hF' 2 _ _ rfl rfl rfl
  replace hA := hA.fr hw.size
  replace hF := hF.trans hw
  clear hs hF' hw
  refine seqR_nil ?_
  refine HT.ret ?_
  obtain rfl := Option.some.inj hr
  exact ⟨.inr rfl, [R 2], ⟨rfl, trivial⟩, h2, hF⟩
def M_impl_IsValidRules_L1 (fu : Nat) (p0 : T_impl_RuleSet) (y6 : Int) : Nat → Int → Option (Ex Bool Unit)
  | 0, _ => none
  | k + 1, y19 =>
    bif (decide (y19 < ((gtD p0 y6).length : Int))) then (
      ck (inR y19 (gtD p0 y6).length) <|
      cl true (M_impl_isFeature fu ((gtD (gtD p0 y6) y19).1)) fun x26 =>
      cl (true && ((!x26) == false)) (M_impl_isThreshold fu ((gtD (gtD p0 y6) y19).2.1)) fun x28 =>
      bd ((!x26) || (!x28)) fun x30 =>
      ck (!((true && (x30 == false)) && ((decide ((0 : Int) < y19)) == true)) || i64B (y19 - (1 : Int))) <|
      ck (!((true && (x30 == false)) && ((decide ((0 : Int) < y19)) == true)) || inR (y19 - (1 : Int)) (gtD p0 y6).length) <|
      bd ((decide ((0 : Int) < y19)) && (decide (((gtD (gtD p0 y6) y19).1) ≤ ((gtD (gtD p0 y6) (y19 - (1 : Int))).1)))) fun x34 =>
      bd (x30 || x34) fun x36 =>
      bif x36 then (
        some (Ex.ret false)
      ) else (
        ck (i64B (y19 + (1 : Int))) <|
        M_impl_IsValidRules_L1 fu p0 y6 k (y19 + (1 : Int))
      )
    ) else (
      some (Ex.go ())
    )
def M_impl_IsValidRules_L0 (fu : Nat) (p0 : T_impl_RuleSet) : Nat → Int → Option (Ex Bool Unit)
  | 0, _ => none
  | k + 1, y6 =>
    bif (decide (y6 < (p0.length : Int))) then (
      ck (inR y6 p0.length) <|
      cl true (M_impl_within fu ((gtD p0 y6).length : Int) (1 : Int) (3 : Int)) fun x12 =>
      bif (!x12) then (
        some (Ex.ret false)
      ) else (
        cl true (M_impl_IsValidRules_L1 fu p0 y6 fu (0 : Int)) fun rl16 =>
        exM rl16 (fun r => some (Ex.ret r)) fun s18 =>
        ck (i64B (y6 + (1 : Int))) <|
        M_impl_IsValidRules_L0 fu p0 k (y6 + (1 : Int))
      )
    ) else (
      some (Ex.go ())
    )
def M_impl_IsValidRules (fu : Nat) (p0 : T_impl_RuleSet) : Option Bool :=
  cl true (M_impl_IsValidRules_L0 fu p0 fu (0 : Int)) fun rl3 =>
  exM rl3 (fun r => some r) fun s5 =>
  cl true (M_impl_within fu (p0.length : Int) (1 : Int) (3 : Int)) fun x41 =>
  some x41
set_option maxRecDepth 100000 in
set_option maxHeartbeats 4000000 in
theorem M_impl_IsValidRules_ok {fu : Nat} {A0 : Av} {p0 : T_impl_RuleSet} {r : Bool} (hr : M_impl_IsValidRules fu p0 = some r) {w : World} {v0 : Value} (hA : AvOK A0 w) (h0 : Rep E_impl_RuleSet A0 w v0 p0) :
    Calls Tryd.prog 26 #[v0] w fun e w' => ∃ v, e = .returned v ∧ (v = .bool r ∧ Fr w w') := by
  unfold M_impl_IsValidRules at hr
  obtain ⟨w0, hw0⟩ : ∃ w0, w0 = w := ⟨_, rfl⟩
  have hF : Fr w0 w := hw0 ▸ Fr.refl _
  have hA0 : ∀ b o, A0 b o → b < w0.heap.size := fun b o h => hw0 ▸ hA b o h
  have hA00 : AvOK A0 w0 := hA0
  rw [show Fr w = Fr w0 from hw0 ▸ rfl]
  clear hw0
  obtain ⟨A, hAe⟩ : ∃ A, A = A0 := ⟨_, rfl⟩
  have hAA : ∀ b o, A0 b o → A b o := fun b o h => hAe ▸ h
  replace hA : AvOK A w := hAe ▸ hA
  have hO : IniOK [] A w := IniOK.nil
  refine calls_of_HT2 [.tmp 2] Tryd.func26 Tryd.ntmps26 (by decide) rfl rfl (Nat.le_of_ble_eq_true rfl) ?_
  intro R hR
  have f_v0 : Rep E_impl_RuleSet A w v0 p0 := hAe ▸ h0
  replace h0 : R 0 = v0 := hR 0 _ rfl
  clear hR hAe
  refine HT.seq ?_
  refine HT.textR [] (⟨_, true, [], some (.box w0.heap.size 24 E_impl_RuleSet p0), true, fun A => .any⟩ :: ⟨_, true, [], none, true, fun A => .raw (.bool false)⟩ :: []) (by kernel_rfl) (by kernel_rfl) (Wf.mk' (by kernel_rfl) (UAll.cons ust_any (UAll.cons ust_raw (UAll.nil))) (by kernel_rfl) (by kernel_rfl)) hO hA ?_ ?_
  · exact
      OblsR.cons (OblR.made _ rfl rfl rfl rfl fun A' R' w' ho hd => by have a0 : R' 0 = v0 := (ho.old 0 rfl).trans h0; have ra0 := (f_v0.stp ho.stp).eq a0; exact made_box ra0 (Nat.le_trans hF.size ho.ch.size)) <|
      OblsR.cons (OblR.plain rfl rfl rfl rfl fun A' R' w' ho hd => by exact of_assign rfl) <|
      OblsR.nil
  intro done ρ σ A R w hdn hI
  obtain ⟨b1_0, e_b1_0⟩ := hI.boxv hdn 0 rfl rfl
  have h1 : R 1 = (.pointer (some ⟨b1_0, 0, none⟩)) := (hI.opvR hdn 0 0 rfl rfl rfl rfl rfl).symm.trans e_b1_0
  replace hAA := hI.low' hAA hA0 (hO.ge (trivial))
  replace hF : Fr w0 w := hF.tr hI.ch (hO.ge (trivial))
  replace hO : IniOK [ob (.pointer (some ⟨b1_0, 0, none⟩)) (.box w0.heap.size 24 E_impl_RuleSet p0)] A w := hI.left hdn [(0, ob (.pointer (some ⟨b1_0, 0, none⟩)) (.box w0.heap.size 24 E_impl_RuleSet p0))] ⟨rfl, rfl, e_b1_0, rfl, rfl, trivial⟩
  replace hA := hI.avok
  clear hI
  refine HT.seq ?_
  refine HT.seq ?_
  refine HT.text (l := ⟨_, true, .raw (.pointer (some ⟨b1_0, 0, none⟩))⟩ :: ⟨_, true, .rep (eSl E_impl_Rule) A p0⟩ :: ⟨_, true, .raw (.int .i64 (p0.length : Int))⟩ :: ⟨_, true, .raw (.int .i64 (0 : Int))⟩ :: []) (tl := []) (by kernel_rfl) (by kernel_rfl) (by kernel_rfl) ?_ ?_
  · exact
      Obls.cons (Obl.plain rfl rfl fun R' w' hw hs hd => by have a0 : R' 1 = (.pointer (some ⟨b1_0, 0, none⟩)) := (hs 1 rfl).trans h1; exact of_fieldAddr_raw a0 ff_24_0 Tryd.sizeOf22 (by decide) rfl) <|
      Obls.cons (Obl.plain rfl rfl fun R' w' hw hs hd => by have a0 : R' 7 = (.pointer (some ⟨b1_0, 0, none⟩)) := hd 0 _ _ _ rfl rfl rfl rfl rfl; exact (of_load_box ((hO.fr hw).ok 0 _ rfl).1 a0 fl_impl_RuleSet_0 rfl Tryd.isAgg22 Tryd.sizeOf22)) <|
      Obls.cons (Obl.plain rfl rfl fun R' w' hw hs hd => by have a0 : Rep (eSl E_impl_Rule) A w' (R' 8) p0 := hd 0 _ _ _ rfl rfl rfl rfl rfl; exact of_len_sl (aT := #[]) a0 Tryd.underlying22) <|
      Obls.cons (Obl.plain rfl rfl fun R' w' hw hs hd => by exact of_move rfl) <|
      Obls.nil
  intro R w hw hs hF'
  replace h1 : R 1 = (.pointer (some ⟨b1_0, 0, none⟩)) := (hs 1 rfl).trans h1
  obtain ⟨u2, h8, f_u2⟩ : ∃ u, R 8 = u ∧ Rep (eSl E_impl_Rule) A w u p0 := ⟨_, rfl, hF' 1 _ _ rfl rfl rfl⟩
  have h9 : R 9 = .int .i64 (p0.length : Int) := hF' 2 _ _ rfl rfl rfl
  have h10 : R 10 = .int .i64 (0 : Int) := hF' 3 _ _ rfl rfl rfl
  replace hO := hO.fr hw
  replace hA := hA.fr hw.size
  replace hF := hF.trans hw
  clear hs hF' hw
  refine seqR_nil ?_
  obtain ⟨rl3, q4, hr⟩ := cl_some hr
  replace q4 := q4 rfl
  refine HT.cut0 (fun R w => ∃ A : Av, ∃ (s5 : Unit), rl3 = Ex.go s5 ∧ AvOK A w ∧ Fr w0 w ∧ (∀ b o, A0 b o → A b o) ∧ IniOK [ob (.pointer (some ⟨b1_0, 0, none⟩)) (.box w0.heap.size 24 E_impl_RuleSet p0)] A w ∧ R 1 = (.pointer (some ⟨b1_0, 0, none⟩))) ?_ ?_
  · refine HT.block ?_
    refine HT.loop (fun k R w => ∃ A : Av, ∃ (y6 : Int), M_impl_IsValidRules_L0 fu p0 k y6 = some rl3 ∧ AvOK A w ∧ Fr w0 w ∧ (∀ b o, A0 b o → A b o) ∧ IniOK [ob (.pointer (some ⟨b1_0, 0, none⟩)) (.box w0.heap.size 24 E_impl_RuleSet p0)] A w ∧ R 1 = (.pointer (some ⟨b1_0, 0, none⟩)) ∧ R 8 = u2 ∧ R 9 = .int .i64 (p0.length : Int) ∧ R 10 = .int .i64 y6 ∧ Rep (eSl E_impl_Rule) A w u2 p0) fu ⟨_, _, q4, hA, hF, hAA, hO, h1, h8, h9, h10, f_u2⟩ ?_
    have hr0 := hr; clear hr q4
    rintro k R w ⟨A, y6, hr, hA, hF, hAA, hO, h1, h8, h9, h10, f_u2⟩
    rcases k with _ | k
    · cases (show none = some _ from hr)
    rw [M_impl_IsValidRules_L0] at hr
    refine HT.seq ?_
    refine HT.text (l := ⟨_, true, .raw (.bool (decide (y6 < (p0.length : Int))))⟩ :: []) (tl := []) (by kernel_rfl) (by kernel_rfl) (by kernel_rfl) ?_ ?_
    · exact
        Obls.cons (Obl.plain rfl rfl fun R' w' hw hs hd => by have a0 : R' 10 = .int .i64 y6 := (hs 10 rfl).trans h10; have a1 : R' 9 = .int .i64 (p0.length : Int) := (hs 9 rfl).trans h9; exact of_lss a0 a1) <|
        Obls.nil
    intro R w hw hs hF'
    replace h1 : R 1 = (.pointer (some ⟨b1_0, 0, none⟩)) := (hs 1 rfl).trans h1
    replace h8 : R 8 = u2 := (hs 8 rfl).trans h8
    replace h9 : R 9 = .int .i64 (p0.length : Int) := (hs 9 rfl).trans h9
    replace h10 : R 10 = .int .i64 y6 := (hs 10 rfl).trans h10
    have h11 : R 11 = .bool (decide (y6 < (p0.length : Int))) := hF' 0 _ _ rfl rfl rfl
    replace f_u2 := f_u2.fr hw
    replace hO := hO.fr hw
    replace hA := hA.fr hw.size
    replace hF := hF.trans hw
    clear hs hF' hw
    refine seqR_nil ?_
    refine HT.seq ?_
    refine HT.cond (decide (y6 < (p0.length : Int))) h11 (fun c7 => ?_) (fun c7 => ?_)
    · have hr := cnd_t c7 hr
      refine HT.skip ?_
      refine HT.seq ?_
      refine HT.block ?_
      refine HT.seq ?_
      obtain ⟨e8, hr⟩ := ck_some hr
      refine HT.textR [ob (.pointer (some ⟨b1_0, 0, none⟩)) (.box w0.heap.size 24 E_impl_RuleSet p0)] (⟨_, true, [], none, true, fun A => .qtr E_impl_Rule A (gtD p0 y6)⟩ :: ⟨_, true, [], none, true, fun A => .rep E_impl_Rule A (gtD p0 y6)⟩ :: ⟨_, true, [], some (.box w0.heap.size 32 E_impl_Rule ([] : List T_impl_Test)), true, fun A => .any⟩ :: ⟨_, true, [3], some (.box w0.heap.size 32 E_impl_Rule (gtD p0 y6)), false, fun A => .any⟩ :: []) (by kernel_rfl) (by kernel_rfl) (Wf.mk' (by kernel_rfl) (UAll.cons ust_qtr (UAll.cons ust_rep (UAll.cons ust_any (UAll.cons ust_any (UAll.nil))))) (by kernel_rfl) (by kernel_rfl)) hO hA ?_ ?_
      · exact
          OblsR.cons (OblR.plain rfl rfl rfl rfl fun A' R' w' ho hd => by have a0 : R' 8 = u2 := (ho.old 8 rfl).trans h8; have a1 : R' 10 = .int .i64 y6 := (ho.old 10 rfl).trans h10; have ra0 := (f_u2.stp ho.stp).eq a0; exact of_indexAddr ra0 a1 Tryd.underlying22 Tryd.sizeOf32 e8) <|
          OblsR.cons (OblR.plain rfl rfl rfl rfl fun A' R' w' ho hd => by have a0 : QRep E_impl_Rule A' w' (R' 12) (gtD p0 y6) := hd 0 _ _ _ rfl rfl rfl rfl rfl; exact (of_load a0.ptr Tryd.isAgg32 Tryd.sizeOf32)) <|
          OblsR.cons (OblR.made _ rfl rfl rfl rfl fun A' R' w' ho hd => by exact made_alloc Tryd.zeroValue32 (fun A w => rep1_nil) (Nat.le_trans hF.size ho.ch.size)) <|
          OblsR.cons (OblR.took 3 _ _ rfl rfl rfl rfl rfl fun A' R' w' ho hd u hok hav hin hop hds => by have a1 : Rep E_impl_Rule A' w' (R' 13) (gtD p0 y6) := hd 1 _ _ _ rfl rfl rfl rfl rfl; obtain ⟨b, hb, hB', hbx⟩ := hok; have hop' := hop _ _ rfl rfl rfl rfl; exact took_store a1 (hop'.symm.trans hb) hb ⟨b, hb, hB', hbx⟩ hav (FldS.id _) Tryd.sizeOf32 rfl) <|
          OblsR.nil
      intro done ρ σ A R w hdn hI
      replace h1 : R 1 = (.pointer (some ⟨b1_0, 0, none⟩)) := (hI.reg rfl).trans h1
      replace h8 : R 8 = u2 := (hI.reg rfl).trans h8
      replace h9 : R 9 = .int .i64 (p0.length : Int) := (hI.reg rfl).trans h9
      replace h10 : R 10 = .int .i64 y6 := (hI.reg rfl).trans h10
      have z9 := hI.inivR 0 rfl
      obtain ⟨b4_9, e_b4_9⟩ := hI.boxv hdn 4 rfl rfl
      have z11 := (hI.opnR hdn 4 3 rfl rfl rfl rfl rfl).symm.trans e_b4_9
      have h4 : R 4 = (.pointer (some ⟨b4_9, 0, none⟩)) := (hI.opvR hdn 3 2 rfl rfl rfl rfl rfl).symm.trans z11
      replace f_u2 := f_u2.stp hI.stp
      replace hAA := hI.low' hAA hA0 (hO.ge (⟨rfl, trivial⟩))
      replace hF : Fr w0 w := hF.tr hI.ch (hO.ge (⟨rfl, trivial⟩))
      replace hO : IniOK [ob (.pointer (some ⟨b1_0, 0, none⟩)) (.box w0.heap.size 24 E_impl_RuleSet p0), ob (.pointer (some ⟨b4_9, 0, none⟩)) (.box w0.heap.size 32 E_impl_Rule (gtD p0 y6))] A w := hI.left hdn [(0, ob (.pointer (some ⟨b1_0, 0, none⟩)) (.box w0.heap.size 24 E_impl_RuleSet p0)), (4, ob (.pointer (some ⟨b4_9, 0, none⟩)) (.box w0.heap.size 32 E_impl_Rule (gtD p0 y6)))] ⟨rfl, rfl, z9, rfl, rfl, ⟨rfl, rfl, e_b4_9, rfl, rfl, trivial⟩⟩
      replace hA := hI.avok
      clear hI
      refine HT.seq ?_
      refine HT.seq ?_
      obtain ⟨x12, q13, hr⟩ := cl_some hr
      refine HT.text (l := ⟨_, true, .raw (.pointer (some ⟨b4_9, 0, none⟩))⟩ :: ⟨_, true, .rep (eSl E_impl_Test) A (gtD p0 y6)⟩ :: ⟨_, true, .raw (.int .i64 ((gtD p0 y6).length : Int))⟩ :: ⟨_, true, .raw (.bool x12)⟩ :: ⟨_, true, .raw (.bool (!x12))⟩ :: []) (tl := []) (by kernel_rfl) (by kernel_rfl) (by kernel_rfl) ?_ ?_
      · exact
          Obls.cons (Obl.plain rfl rfl fun R' w' hw hs hd => by have a0 : R' 4 = (.pointer (some ⟨b4_9, 0, none⟩)) := (hs 4 rfl).trans h4; exact of_fieldAddr_raw a0 ff_32_0 Tryd.sizeOf30 (by decide) rfl) <|
          Obls.cons (Obl.plain rfl rfl fun R' w' hw hs hd => by have a0 : R' 14 = (.pointer (some ⟨b4_9, 0, none⟩)) := hd 0 _ _ _ rfl rfl rfl rfl rfl; exact (of_load_box ((hO.fr hw).ok 1 _ rfl).1 a0 fl_impl_Rule_0 rfl Tryd.isAgg30 Tryd.sizeOf30)) <|
          Obls.cons (Obl.plain rfl rfl fun R' w' hw hs hd => by have a0 : Rep (eSl E_impl_Test) A w' (R' 15) (gtD p0 y6) := hd 0 _ _ _ rfl rfl rfl rfl rfl; exact of_len_sl (aT := #[]) a0 Tryd.underlying30) <|
          Obls.cons (Obl.plain rfl rfl fun R' w' hw hs hd => by have a0 : R' 16 = .int .i64 ((gtD p0 y6).length : Int) := hd 0 _ _ _ rfl rfl rfl rfl rfl; exact of_call Tryd.call39 (M_impl_within_ok (q13 rfl) (hA.fr hw.size) a0 rfl rfl)) <|
          Obls.cons (Obl.plain rfl rfl fun R' w' hw hs hd => by have a0 : R' 17 = .bool x12 := hd 0 _ _ _ rfl rfl rfl rfl rfl; exact of_not a0) <|
          Obls.nil
      intro R w hw hs hF'
      replace h1 : R 1 = (.pointer (some ⟨b1_0, 0, none⟩)) := (hs 1 rfl).trans h1
      replace h4 : R 4 = (.pointer (some ⟨b4_9, 0, none⟩)) := (hs 4 rfl).trans h4
      replace h8 : R 8 = u2 := (hs 8 rfl).trans h8
      replace h9 : R 9 = .int .i64 (p0.length : Int) := (hs 9 rfl).trans h9
      replace h10 : R 10 = .int .i64 y6 := (hs 10 rfl).trans h10
      have h18 : R 18 = .bool (!x12) := hF' 4 _ _ rfl rfl rfl
      replace f_u2 := f_u2.fr hw
      replace hO := hO.fr hw
      replace hA := hA.fr hw.size
      replace hF := hF.trans hw
      clear hs hF' hw
      refine seqR_nil ?_
      refine HT.cond (!x12) h18 (fun c14 => ?_) (fun c14 => ?_)
      · have hr := cnd_t c14 hr
        refine HT.seq ?_
        refine HT.text (l := ⟨_, true, .raw (.bool false)⟩ :: []) (tl := []) (by kernel_rfl) (by kernel_rfl) (by kernel_rfl) ?_ ?_
        · exact
            Obls.cons (Obl.plain rfl rfl fun R' w' hw hs hd => by exact of_assign rfl) <|
            Obls.nil
        intro R w hw hs hF'
        have h2 : R 2 = .bool false := hF' 0 _ _ rfl rfl rfl
        replace hO := hO.fr hw
        replace hO : IniOK [] A w := hO.sub [] trivial
        replace hA := hA.fr hw.size
        replace hF := hF.trans hw
        clear hs hF' hw
        refine seqR_nil ?_
        refine HT.ret ?_
        obtain rfl := Option.some.inj hr
        have hr := hr0
        replace hr : some _ = some _ := hr
        obtain rfl := Option.some.inj hr
        exact ⟨.inr rfl, [R 2], ⟨rfl, trivial⟩, h2, hF⟩
      · have hr := cnd_f c14 hr
        refine HT.skip ?_
        refine HT.seq ?_
        refine HT.text (l := ⟨_, true, .raw (.pointer (some ⟨b4_9, 0, none⟩))⟩ :: ⟨_, true, .rep (eSl E_impl_Test) A (gtD p0 y6)⟩ :: ⟨_, true, .raw (.int .i64 ((gtD p0 y6).length : Int))⟩ :: ⟨_, true, .raw (.int .i64 (0 : Int))⟩ :: []) (tl := []) (by kernel_rfl) (by kernel_rfl) (by kernel_rfl) ?_ ?_
        · exact
            Obls.cons (Obl.plain rfl rfl fun R' w' hw hs hd => by have a0 : R' 4 = (.pointer (some ⟨b4_9, 0, none⟩)) := (hs 4 rfl).trans h4; exact of_fieldAddr_raw a0 ff_32_0 Tryd.sizeOf30 (by decide) rfl) <|
            Obls.cons (Obl.plain rfl rfl fun R' w' hw hs hd => by have a0 : R' 19 = (.pointer (some ⟨b4_9, 0, none⟩)) := hd 0 _ _ _ rfl rfl rfl rfl rfl; exact (of_load_box ((hO.fr hw).ok 1 _ rfl).1 a0 fl_impl_Rule_0 rfl Tryd.isAgg30 Tryd.sizeOf30)) <|
            Obls.cons (Obl.plain rfl rfl fun R' w' hw hs hd => by have a0 : Rep (eSl E_impl_Test) A w' (R' 20) (gtD p0 y6) := hd 0 _ _ _ rfl rfl rfl rfl rfl; exact of_len_sl (aT := #[]) a0 Tryd.underlying30) <|
            Obls.cons (Obl.plain rfl rfl fun R' w' hw hs hd => by exact of_move rfl) <|
            Obls.nil
        intro R w hw hs hF'
        replace h1 : R 1 = (.pointer (some ⟨b1_0, 0, none⟩)) := (hs 1 rfl).trans h1
        replace h4 : R 4 = (.pointer (some ⟨b4_9, 0, none⟩)) := (hs 4 rfl).trans h4
        replace h8 : R 8 = u2 := (hs 8 rfl).trans h8
        replace h9 : R 9 = .int .i64 (p0.length : Int) := (hs 9 rfl).trans h9
        replace h10 : R 10 = .int .i64 y6 := (hs 10 rfl).trans h10
        obtain ⟨u15, h20, f_u15⟩ : ∃ u, R 20 = u ∧ Rep (eSl E_impl_Test) A w u (gtD p0 y6) := ⟨_, rfl, hF' 1 _ _ rfl rfl rfl⟩
        have h21 : R 21 = .int .i64 ((gtD p0 y6).length : Int) := hF' 2 _ _ rfl rfl rfl
        have h22 : R 22 = .int .i64 (0 : Int) := hF' 3 _ _ rfl rfl rfl
        replace f_u2 := f_u2.fr hw
        replace hO := hO.fr hw
        replace hA := hA.fr hw.size
        replace hF := hF.trans hw
        clear hs hF' hw
        refine seqR_nil ?_
        obtain ⟨rl16, q17, hr⟩ := cl_some hr
        replace q17 := q17 rfl
        refine HT.cut0 (fun R w => ∃ A : Av, ∃ (s18 : Unit), rl16 = Ex.go s18 ∧ AvOK A w ∧ Fr w0 w ∧ (∀ b o, A0 b o → A b o) ∧ IniOK [ob (.pointer (some ⟨b1_0, 0, none⟩)) (.box w0.heap.size 24 E_impl_RuleSet p0)] A w ∧ R 1 = (.pointer (some ⟨b1_0, 0, none⟩)) ∧ R 8 = u2 ∧ R 9 = .int .i64 (p0.length : Int) ∧ R 10 = .int .i64 y6 ∧ Rep (eSl E_impl_Rule) A w u2 p0) ?_ ?_
        · refine HT.block ?_
          refine HT.loop (fun k R w => ∃ A : Av, ∃ (y19 : Int), M_impl_IsValidRules_L1 fu p0 y6 k y19 = some rl16 ∧ AvOK A w ∧ Fr w0 w ∧ (∀ b o, A0 b o → A b o) ∧ IniOK [ob (.pointer (some ⟨b1_0, 0, none⟩)) (.box w0.heap.size 24 E_impl_RuleSet p0), ob (.pointer (some ⟨b4_9, 0, none⟩)) (.box w0.heap.size 32 E_impl_Rule (gtD p0 y6))] A w ∧ R 1 = (.pointer (some ⟨b1_0, 0, none⟩)) ∧ R 4 = (.pointer (some ⟨b4_9, 0, none⟩)) ∧ R 8 = u2 ∧ R 9 = .int .i64 (p0.length : Int) ∧ R 10 = .int .i64 y6 ∧ R 20 = u15 ∧ R 21 = .int .i64 ((gtD p0 y6).length : Int) ∧ R 22 = .int .i64 y19 ∧ Rep (eSl E_impl_Test) A w u15 (gtD p0 y6) ∧ Rep (eSl E_impl_Rule) A w u2 p0) fu ⟨_, _, q17, hA, hF, hAA, hO, h1, h4, h8, h9, h10, h20, h21, h22, f_u15, f_u2⟩ ?_
          have hr1 := hr; clear hr q17
          rintro k R w ⟨A, y19, hr, hA, hF, hAA, hO, h1, h4, h8, h9, h10, h20, h21, h22, f_u15, f_u2⟩
          rcases k with _ | k
          · cases (show none = some _ from hr)
          rw [M_impl_IsValidRules_L1] at hr
          refine HT.seq ?_
          refine HT.text (l := ⟨_, true, .raw (.bool (decide (y19 < ((gtD p0 y6).length : Int))))⟩ :: []) (tl := []) (by kernel_rfl) (by kernel_rfl) (by kernel_rfl) ?_ ?_
          · exact
              Obls.cons (Obl.plain rfl rfl fun R' w' hw hs hd => by have a0 : R' 22 = .int .i64 y19 := (hs 22 rfl).trans h22; have a1 : R' 21 = .int .i64 ((gtD p0 y6).length : Int) := (hs 21 rfl).trans h21; exact of_lss a0 a1) <|
              Obls.nil
          intro R w hw hs hF'
          replace h1 : R 1 = (.pointer (some ⟨b1_0, 0, none⟩)) := (hs 1 rfl).trans h1
          replace h4 : R 4 = (.pointer (some ⟨b4_9, 0, none⟩)) := (hs 4 rfl).trans h4
          replace h8 : R 8 = u2 := (hs 8 rfl).trans h8
          replace h9 : R 9 = .int .i64 (p0.length : Int) := (hs 9 rfl).trans h9
          replace h10 : R 10 = .int .i64 y6 := (hs 10 rfl).trans h10
          replace h20 : R 20 = u15 := (hs 20 rfl).trans h20
          replace h21 : R 21 = .int .i64 ((gtD p0 y6).length : Int) := (hs 21 rfl).trans h21
          replace h22 : R 22 = .int .i64 y19 := (hs 22 rfl).trans h22
          have h23 : R 23 = .bool (decide (y19 < ((gtD p0 y6).length : Int))) := hF' 0 _ _ rfl rfl rfl
          replace f_u15 := f_u15.fr hw
          replace f_u2 := f_u2.fr hw
          replace hO := hO.fr hw
          replace hA := hA.fr hw.size
          replace hF := hF.trans hw
          clear hs hF' hw
          refine seqR_nil ?_
          refine HT.seq ?_
          refine HT.cond (decide (y19 < ((gtD p0 y6).length : Int))) h23 (fun c20 => ?_) (fun c20 => ?_)
          · have hr := cnd_t c20 hr
            refine HT.skip ?_
            refine HT.seq ?_
            refine HT.block ?_
            refine HT.seq ?_
            obtain ⟨e21, hr⟩ := ck_some hr
            refine HT.textR [ob (.pointer (some ⟨b1_0, 0, none⟩)) (.box w0.heap.size 24 E_impl_RuleSet p0), ob (.pointer (some ⟨b4_9, 0, none⟩)) (.box w0.heap.size 32 E_impl_Rule (gtD p0 y6))] (⟨_, true, [], none, true, fun A => .raw (.int .i64 y19)⟩ :: ⟨_, true, [], none, true, fun A => .qtr E_impl_Test A (gtD (gtD p0 y6) y19)⟩ :: ⟨_, true, [], none, true, fun A => .rep E_impl_Test A (gtD (gtD p0 y6) y19)⟩ :: ⟨_, true, [], some (.box w0.heap.size 36 E_impl_Test ((0 : Int), ((0 : Int), false))), true, fun A => .any⟩ :: ⟨_, true, [], none, true, fun A => .raw (.int .i64 y19)⟩ :: ⟨_, true, [5], some (.box w0.heap.size 36 E_impl_Test (gtD (gtD p0 y6) y19)), false, fun A => .any⟩ :: []) (by kernel_rfl) (by kernel_rfl) (Wf.mk' (by kernel_rfl) (UAll.cons ust_raw (UAll.cons ust_qtr (UAll.cons ust_rep (UAll.cons ust_any (UAll.cons ust_raw (UAll.cons ust_any (UAll.nil))))))) (by kernel_rfl) (by kernel_rfl)) hO hA ?_ ?_
            · exact
                OblsR.cons (OblR.plain rfl rfl rfl rfl fun A' R' w' ho hd => by have a0 : R' 22 = .int .i64 y19 := (ho.old 22 rfl).trans h22; exact of_move a0) <|
                OblsR.cons (OblR.plain rfl rfl rfl rfl fun A' R' w' ho hd => by have a0 : R' 20 = u15 := (ho.old 20 rfl).trans h20; have a1 : R' 22 = .int .i64 y19 := (ho.old 22 rfl).trans h22; have ra0 := (f_u15.stp ho.stp).eq a0; exact of_indexAddr ra0 a1 Tryd.underlying30 Tryd.sizeOf36 e21) <|
                OblsR.cons (OblR.plain rfl rfl rfl rfl fun A' R' w' ho hd => by have a0 : QRep E_impl_Test A' w' (R' 25) (gtD (gtD p0 y6) y19) := hd 0 _ _ _ rfl rfl rfl rfl rfl; exact (of_load a0.ptr Tryd.isAgg36 Tryd.sizeOf36)) <|
                OblsR.cons (OblR.made _ rfl rfl rfl rfl fun A' R' w' ho hd => by exact made_alloc Tryd.zeroValue36 (fun A w => rep_pr rep1_int (rep_pr rep1_int rep1_bool)) (Nat.le_trans hF.size ho.ch.size)) <|
                OblsR.cons (OblR.plain rfl rfl rfl rfl fun A' R' w' ho hd => by have a0 : R' 24 = .int .i64 y19 := hd 0 _ _ _ rfl rfl rfl rfl rfl; exact of_assign a0) <|
                OblsR.cons (OblR.took 5 _ _ rfl rfl rfl rfl rfl fun A' R' w' ho hd u hok hav hin hop hds => by have a1 : Rep E_impl_Test A' w' (R' 26) (gtD (gtD p0 y6) y19) := hd 1 _ _ _ rfl rfl rfl rfl rfl; obtain ⟨b, hb, hB', hbx⟩ := hok; have hop' := hop _ _ rfl rfl rfl rfl; exact took_store a1 (hop'.symm.trans hb) hb ⟨b, hb, hB', hbx⟩ hav (FldS.id _) Tryd.sizeOf36 rfl) <|
                OblsR.nil
            intro done ρ σ A R w hdn hI
            replace h1 : R 1 = (.pointer (some ⟨b1_0, 0, none⟩)) := (hI.reg rfl).trans h1
            replace h4 : R 4 = (.pointer (some ⟨b4_9, 0, none⟩)) := (hI.reg rfl).trans h4
            replace h8 : R 8 = u2 := (hI.reg rfl).trans h8
            replace h9 : R 9 = .int .i64 (p0.length : Int) := (hI.reg rfl).trans h9
            replace h10 : R 10 = .int .i64 y6 := (hI.reg rfl).trans h10
            replace h20 : R 20 = u15 := (hI.reg rfl).trans h20
            replace h21 : R 21 = .int .i64 ((gtD p0 y6).length : Int) := (hI.reg rfl).trans h21
            replace h22 : R 22 = .int .i64 y19 := (hI.reg rfl).trans h22
            have z22 := hI.inivR 0 rfl
            have z23 := hI.inivR 1 rfl
            obtain ⟨b6_23, e_b6_23⟩ := hI.boxv hdn 7 rfl rfl
            have z25 := (hI.opnR hdn 7 5 rfl rfl rfl rfl rfl).symm.trans e_b6_23
            have h6 : R 6 = (.pointer (some ⟨b6_23, 0, none⟩)) := (hI.opvR hdn 5 3 rfl rfl rfl rfl rfl).symm.trans z25
            have h5 : R 5 = .int .i64 y19 := hI.fact hdn (i := 4) rfl rfl rfl
            replace f_u15 := f_u15.stp hI.stp
            replace f_u2 := f_u2.stp hI.stp
            replace hAA := hI.low' hAA hA0 (hO.ge (⟨rfl, ⟨rfl, trivial⟩⟩))
            replace hF : Fr w0 w := hF.tr hI.ch (hO.ge (⟨rfl, ⟨rfl, trivial⟩⟩))
            replace hO : IniOK [ob (.pointer (some ⟨b1_0, 0, none⟩)) (.box w0.heap.size 24 E_impl_RuleSet p0), ob (.pointer (some ⟨b4_9, 0, none⟩)) (.box w0.heap.size 32 E_impl_Rule (gtD p0 y6)), ob (.pointer (some ⟨b6_23, 0, none⟩)) (.box w0.heap.size 36 E_impl_Test (gtD (gtD p0 y6) y19))] A w := hI.left hdn [(0, ob (.pointer (some ⟨b1_0, 0, none⟩)) (.box w0.heap.size 24 E_impl_RuleSet p0)), (1, ob (.pointer (some ⟨b4_9, 0, none⟩)) (.box w0.heap.size 32 E_impl_Rule (gtD p0 y6))), (7, ob (.pointer (some ⟨b6_23, 0, none⟩)) (.box w0.heap.size 36 E_impl_Test (gtD (gtD p0 y6) y19)))] ⟨rfl, rfl, z22, rfl, rfl, ⟨rfl, rfl, z23, rfl, rfl, ⟨rfl, rfl, e_b6_23, rfl, rfl, trivial⟩⟩⟩
            replace hA := hI.avok
            clear hI
            refine HT.seq ?_
            obtain ⟨x26, q27, hr⟩ := cl_some hr
            obtain ⟨x28, q29, hr⟩ := cl_some hr
            obtain ⟨x30, q31, hr⟩ := bd_some hr
            obtain ⟨e32, hr⟩ := ck_some hr
            obtain ⟨e33, hr⟩ := ck_some hr
            obtain ⟨x34, q35, hr⟩ := bd_some hr
            obtain ⟨x36, q37, hr⟩ := bd_some hr
            refine HT.draw (by kernel_rfl) (l := ⟨_, true, .raw (.pointer (some ⟨b6_23, 0, none⟩))⟩ :: ⟨_, true, .raw (.int .i64 ((gtD (gtD p0 y6) y19).1))⟩ :: ⟨_, true, .raw (.bool x26)⟩ :: ⟨_, true, .raw (.bool (!x26))⟩ :: ⟨_, true, .raw (.bool (!x26))⟩ :: ⟨_, (true && ((!x26) == false)), .raw (.pointer (some ⟨b6_23, 1, none⟩))⟩ :: ⟨_, (true && ((!x26) == false)), .raw (.int .i64 ((gtD (gtD p0 y6) y19).2.1))⟩ :: ⟨_, (true && ((!x26) == false)), .raw (.bool x28)⟩ :: ⟨_, (true && ((!x26) == false)), .raw (.bool (!x28))⟩ :: ⟨_, true, .raw (.bool x30)⟩ :: ⟨_, true, .raw (.bool x30)⟩ :: ⟨_, (true && (x30 == false)), .raw (.int .i64 y19)⟩ :: ⟨_, (true && (x30 == false)), .raw (.bool (decide ((0 : Int) < y19)))⟩ :: ⟨_, (true && (x30 == false)), .raw (.bool (decide ((0 : Int) < y19)))⟩ :: ⟨_, ((true && (x30 == false)) && ((decide ((0 : Int) < y19)) == true)), .raw (.pointer (some ⟨b4_9, 0, none⟩))⟩ :: ⟨_, ((true && (x30 == false)) && ((decide ((0 : Int) < y19)) == true)), .rep (eSl E_impl_Test) A (gtD p0 y6)⟩ :: ⟨_, ((true && (x30 == false)) && ((decide ((0 : Int) < y19)) == true)), .raw (.int .i64 y19)⟩ :: ⟨_, ((true && (x30 == false)) && ((decide ((0 : Int) < y19)) == true)), .raw (.int .i64 (y19 - (1 : Int)))⟩ :: ⟨_, ((true && (x30 == false)) && ((decide ((0 : Int) < y19)) == true)), .qtr E_impl_Test A (gtD (gtD p0 y6) (y19 - (1 : Int)))⟩ :: ⟨_, ((true && (x30 == false)) && ((decide ((0 : Int) < y19)) == true)), .qtr (eInt .i64) A ((gtD (gtD p0 y6) (y19 - (1 : Int))).1)⟩ :: ⟨_, ((true && (x30 == false)) && ((decide ((0 : Int) < y19)) == true)), .raw (.int .i64 ((gtD (gtD p0 y6) (y19 - (1 : Int))).1))⟩ :: ⟨_, ((true && (x30 == false)) && ((decide ((0 : Int) < y19)) == true)), .raw (.pointer (some ⟨b6_23, 0, none⟩))⟩ :: ⟨_, ((true && (x30 == false)) && ((decide ((0 : Int) < y19)) == true)), .raw (.int .i64 ((gtD (gtD p0 y6) y19).1))⟩ :: ⟨_, ((true && (x30 == false)) && ((decide ((0 : Int) < y19)) == true)), .raw (.bool (decide (((gtD (gtD p0 y6) y19).1) ≤ ((gtD (gtD p0 y6) (y19 - (1 : Int))).1))))⟩ :: ⟨_, (true && (x30 == false)), .raw (.bool x34)⟩ :: ⟨_, true, .raw (.bool x36)⟩ :: []) (tl := []) (by kernel_rfl) (by kernel_rfl) (by kernel_rfl) (by kernel_rfl) ?_ ?_
            · exact
                Obls.cons (Obl.plain rfl rfl fun R' w' hw hs hd => by have a0 : R' 6 = (.pointer (some ⟨b6_23, 0, none⟩)) := (hs 6 rfl).trans h6; exact of_fieldAddr_raw a0 ff_36_0 Tryd.sizeOf3 (by decide) rfl) <|
                Obls.cons (Obl.plain rfl rfl fun R' w' hw hs hd => by have a0 : R' 27 = (.pointer (some ⟨b6_23, 0, none⟩)) := hd 0 _ _ _ rfl rfl rfl rfl rfl; exact OpF.int (of_load_box ((hO.fr hw).ok 2 _ rfl).1 a0 fl_impl_Test_0 rfl Tryd.isAgg3 Tryd.sizeOf3)) <|
                Obls.cons (Obl.plain rfl rfl fun R' w' hw hs hd => by have a0 : R' 28 = .int .i64 ((gtD (gtD p0 y6) y19).1) := hd 0 _ _ _ rfl rfl rfl rfl rfl; exact of_call Tryd.call40 (M_impl_isFeature_ok (q27 rfl) (hA.fr hw.size) a0)) <|
                Obls.cons (Obl.plain rfl rfl fun R' w' hw hs hd => by have a0 : R' 29 = .bool x26 := hd 0 _ _ _ rfl rfl rfl rfl rfl; exact of_not a0) <|
                Obls.cons (Obl.plain rfl rfl fun R' w' hw hs hd => by have a0 : R' 30 = .bool (!x26) := hd 0 _ _ _ rfl rfl rfl rfl rfl; exact of_move a0) <|
                Obls.cons (Obl.grd 4 false _ _ _ rfl rfl rfl rfl rfl (by kernel_rfl) fun hg R' w' hw hs hd => by have a0 : R' 6 = (.pointer (some ⟨b6_23, 0, none⟩)) := (hs 6 rfl).trans h6; exact of_fieldAddr_raw a0 ff_36_1 Tryd.sizeOf3 (by decide) rfl) <|
                Obls.cons (Obl.grd 4 false _ _ _ rfl rfl rfl rfl rfl (by kernel_rfl) fun hg R' w' hw hs hd => by have a0 : R' 32 = (.pointer (some ⟨b6_23, 1, none⟩)) := hd 0 _ _ _ rfl rfl rfl rfl hg; exact OpF.int (of_load_box ((hO.fr hw).ok 2 _ rfl).1 a0 fl_impl_Test_1 rfl Tryd.isAgg3 Tryd.sizeOf3)) <|
                Obls.cons (Obl.grd 4 false _ _ _ rfl rfl rfl rfl rfl (by kernel_rfl) fun hg R' w' hw hs hd => by have a0 : R' 33 = .int .i64 ((gtD (gtD p0 y6) y19).2.1) := hd 0 _ _ _ rfl rfl rfl rfl hg; exact of_call Tryd.call41 (M_impl_isThreshold_ok (q29 hg) (hA.fr hw.size) a0)) <|
                Obls.cons (Obl.grd 4 false _ _ _ rfl rfl rfl rfl rfl (by kernel_rfl) fun hg R' w' hw hs hd => by have a0 : R' 34 = .bool x28 := hd 0 _ _ _ rfl rfl rfl rfl hg; exact of_not a0) <|
                Obls.cons (Obl.plain rfl rfl fun R' w' hw hs hd => by have a0 : R' 31 = .bool (!x26) := hd 0 _ _ _ rfl rfl rfl rfl rfl; exact of_pick (!x26) a0 (fun hc => by show _ = Value.bool x30; rw [q31, hc]; exact rfl) (fun hc => by have a2 : R' 35 = .bool (!x28) := hd 1 _ _ _ rfl rfl rfl rfl (g_and rfl (beq_of hc)); show _ = Value.bool x30; rw [q31, hc]; exact a2)) <|
                Obls.cons (Obl.plain rfl rfl fun R' w' hw hs hd => by have a0 : R' 36 = .bool x30 := hd 0 _ _ _ rfl rfl rfl rfl rfl; exact of_move a0) <|
                Obls.cons (Obl.grd 10 false _ _ _ rfl rfl rfl rfl rfl (by kernel_rfl) fun hg R' w' hw hs hd => by have a0 : R' 5 = .int .i64 y19 := (hs 5 rfl).trans h5; exact of_move a0) <|
                Obls.cons (Obl.grd 10 false _ _ _ rfl rfl rfl rfl rfl (by kernel_rfl) fun hg R' w' hw hs hd => by have a0 : R' 38 = .int .i64 y19 := hd 0 _ _ _ rfl rfl rfl rfl hg; exact of_gtr a0 rfl) <|
                Obls.cons (Obl.grd 10 false _ _ _ rfl rfl rfl rfl rfl (by kernel_rfl) fun hg R' w' hw hs hd => by have a0 : R' 39 = .bool (decide ((0 : Int) < y19)) := hd 0 _ _ _ rfl rfl rfl rfl hg; exact of_move a0) <|
                Obls.cons (Obl.grd 13 true _ _ _ rfl rfl rfl rfl rfl (by kernel_rfl) fun hg R' w' hw hs hd => by have a0 : R' 4 = (.pointer (some ⟨b4_9, 0, none⟩)) := (hs 4 rfl).trans h4; exact of_fieldAddr_raw a0 ff_32_0 Tryd.sizeOf30 (by decide) rfl) <|
                Obls.cons (Obl.grd 13 true _ _ _ rfl rfl rfl rfl rfl (by kernel_rfl) fun hg R' w' hw hs hd => by have a0 : R' 41 = (.pointer (some ⟨b4_9, 0, none⟩)) := hd 0 _ _ _ rfl rfl rfl rfl hg; exact (of_load_box ((hO.fr hw).ok 1 _ rfl).1 a0 fl_impl_Rule_0 rfl Tryd.isAgg30 Tryd.sizeOf30)) <|
                Obls.cons (Obl.grd 13 true _ _ _ rfl rfl rfl rfl rfl (by kernel_rfl) fun hg R' w' hw hs hd => by have a0 : R' 5 = .int .i64 y19 := (hs 5 rfl).trans h5; exact of_move a0) <|
                Obls.cons (Obl.grd 13 true _ _ _ rfl rfl rfl rfl rfl (by kernel_rfl) fun hg R' w' hw hs hd => by have a0 : R' 43 = .int .i64 y19 := hd 0 _ _ _ rfl rfl rfl rfl hg; exact of_sub a0 rfl (gd e32 hg)) <|
                Obls.cons (Obl.grd 13 true _ _ _ rfl rfl rfl rfl rfl (by kernel_rfl) fun hg R' w' hw hs hd => by have a0 : Rep (eSl E_impl_Test) A w' (R' 42) (gtD p0 y6) := hd 0 _ _ _ rfl rfl rfl rfl hg; have a1 : R' 44 = .int .i64 (y19 - (1 : Int)) := hd 1 _ _ _ rfl rfl rfl rfl hg; exact of_indexAddr a0 a1 Tryd.underlying30 Tryd.sizeOf36 (gd e33 hg)) <|
                Obls.cons (Obl.grd 13 true _ _ _ rfl rfl rfl rfl rfl (by kernel_rfl) fun hg R' w' hw hs hd => by have a0 : QRep E_impl_Test A w' (R' 45) (gtD (gtD p0 y6) (y19 - (1 : Int))) := hd 0 _ _ _ rfl rfl rfl rfl hg; exact of_fieldAddr_q a0 ff_36_0 Tryd.sizeOf3 (by decide) fl_impl_Test_0 rfl) <|
                Obls.cons (Obl.grd 13 true _ _ _ rfl rfl rfl rfl rfl (by kernel_rfl) fun hg R' w' hw hs hd => by have a0 : QRep (eInt .i64) A w' (R' 46) ((gtD (gtD p0 y6) (y19 - (1 : Int))).1) := hd 0 _ _ _ rfl rfl rfl rfl hg; exact OpF.int (of_load a0.ptr Tryd.isAgg3 Tryd.sizeOf3)) <|
                Obls.cons (Obl.grd 13 true _ _ _ rfl rfl rfl rfl rfl (by kernel_rfl) fun hg R' w' hw hs hd => by have a0 : R' 6 = (.pointer (some ⟨b6_23, 0, none⟩)) := (hs 6 rfl).trans h6; exact of_fieldAddr_raw a0 ff_36_0 Tryd.sizeOf3 (by decide) rfl) <|
                Obls.cons (Obl.grd 13 true _ _ _ rfl rfl rfl rfl rfl (by kernel_rfl) fun hg R' w' hw hs hd => by have a0 : R' 48 = (.pointer (some ⟨b6_23, 0, none⟩)) := hd 0 _ _ _ rfl rfl rfl rfl hg; exact OpF.int (of_load_box ((hO.fr hw).ok 2 _ rfl).1 a0 fl_impl_Test_0 rfl Tryd.isAgg3 Tryd.sizeOf3)) <|
                Obls.cons (Obl.grd 13 true _ _ _ rfl rfl rfl rfl rfl (by kernel_rfl) fun hg R' w' hw hs hd => by have a0 : R' 47 = .int .i64 ((gtD (gtD p0 y6) (y19 - (1 : Int))).1) := hd 0 _ _ _ rfl rfl rfl rfl hg; have a1 : R' 49 = .int .i64 ((gtD (gtD p0 y6) y19).1) := hd 1 _ _ _ rfl rfl rfl rfl hg; exact of_geq a0 a1) <|
                Obls.cons (Obl.grd 10 false _ _ _ rfl rfl rfl rfl rfl (by kernel_rfl) fun hg R' w' hw hs hd => by have a0 : R' 40 = .bool (decide ((0 : Int) < y19)) := hd 0 _ _ _ rfl rfl rfl rfl hg; exact of_pick (decide ((0 : Int) < y19)) a0 (fun hc => by have a1 : R' 50 = .bool (decide (((gtD (gtD p0 y6) y19).1) ≤ ((gtD (gtD p0 y6) (y19 - (1 : Int))).1))) := hd 1 _ _ _ rfl rfl rfl rfl (g_and hg (beq_of hc)); show _ = Value.bool x34; rw [q35, hc]; exact a1) (fun hc => by show _ = Value.bool x34; rw [q35, hc]; exact rfl)) <|
                Obls.cons (Obl.plain rfl rfl fun R' w' hw hs hd => by have a0 : R' 37 = .bool x30 := hd 0 _ _ _ rfl rfl rfl rfl rfl; exact of_pick x30 a0 (fun hc => by show _ = Value.bool x36; rw [q37, hc]; exact rfl) (fun hc => by have a2 : R' 51 = .bool x34 := hd 1 _ _ _ rfl rfl rfl rfl (g_and rfl (beq_of hc)); show _ = Value.bool x36; rw [q37, hc]; exact a2)) <|
                Obls.nil
            intro R w hw hs hF'
            replace h1 : R 1 = (.pointer (some ⟨b1_0, 0, none⟩)) := (hs 1 rfl).trans h1
            replace h4 : R 4 = (.pointer (some ⟨b4_9, 0, none⟩)) := (hs 4 rfl).trans h4
            replace h8 : R 8 = u2 := (hs 8 rfl).trans h8
            replace h9 : R 9 = .int .i64 (p0.length : Int) := (hs 9 rfl).trans h9
            replace h10 : R 10 = .int .i64 y6 := (hs 10 rfl).trans h10
            replace h20 : R 20 = u15 := (hs 20 rfl).trans h20
            replace h21 : R 21 = .int .i64 ((gtD p0 y6).length : Int) := (hs 21 rfl).trans h21
            replace h22 : R 22 = .int .i64 y19 := (hs 22 rfl).trans h22
            have h52 : R 52 = .bool x36 := hF' 25 _ _ rfl rfl rfl
            replace f_u15 := f_u15.fr hw
            replace f_u2 := f_u2.fr hw
            replace hO := hO.fr hw
            replace hO : IniOK [ob (.pointer (some ⟨b1_0, 0, none⟩)) (.box w0.heap.size 24 E_impl_RuleSet p0), ob (.pointer (some ⟨b4_9, 0, none⟩)) (.box w0.heap.size 32 E_impl_Rule (gtD p0 y6))] A w := hO.sub [(0, ob (.pointer (some ⟨b1_0, 0, none⟩)) (.box w0.heap.size 24 E_impl_RuleSet p0)), (1, ob (.pointer (some ⟨b4_9, 0, none⟩)) (.box w0.heap.size 32 E_impl_Rule (gtD p0 y6)))] ⟨rfl, rfl, ⟨rfl, rfl, trivial⟩⟩
            replace hA := hA.fr hw.size
            replace hF := hF.trans hw
            clear hs hF' hw
            refine seqR_nil ?_
            refine HT.cond x36 h52 (fun c38 => ?_) (fun c38 => ?_)
            · have hr := cnd_t c38 hr
              refine HT.seq ?_
              refine HT.text (l := ⟨_, true, .raw (.bool false)⟩ :: []) (tl := []) (by kernel_rfl) (by kernel_rfl) (by kernel_rfl) ?_ ?_
              · exact
                  Obls.cons (Obl.plain rfl rfl fun R' w' hw hs hd => by exact of_assign rfl) <|
                  Obls.nil
              intro R w hw hs hF'
              have h2 : R 2 = .bool false := hF' 0 _ _ rfl rfl rfl
              replace hO := hO.fr hw
              replace hO : IniOK [] A w := hO.sub [] trivial
              replace hA := hA.fr hw.size
              replace hF := hF.trans hw
              clear hs hF' hw
              refine seqR_nil ?_
              refine HT.ret ?_
              obtain rfl := Option.some.inj hr
              have hr := hr1
              replace hr : some _ = some _ := hr
              obtain rfl := Option.some.inj hr
              have hr := hr0
              replace hr : some _ = some _ := hr
              obtain rfl := Option.some.inj hr
              exact ⟨.inr rfl, [R 2], ⟨rfl, trivial⟩, h2, hF⟩
            · have hr := cnd_f c38 hr
              refine HT.skip ?_
              obtain ⟨e39, hr⟩ := ck_some hr
              refine HT.text (l := ⟨_, true, .raw (.int .i64 (y19 + (1 : Int)))⟩ :: ⟨_, true, .raw (.int .i64 (y19 + (1 : Int)))⟩ :: []) (tl := []) (by kernel_rfl) (by kernel_rfl) (by kernel_rfl) ?_ ?_
              · exact
                  Obls.cons (Obl.plain rfl rfl fun R' w' hw hs hd => by have a0 : R' 22 = .int .i64 y19 := (hs 22 rfl).trans h22; exact of_add a0 rfl e39) <|
                  Obls.cons (Obl.plain rfl rfl fun R' w' hw hs hd => by have a0 : R' 53 = .int .i64 (y19 + (1 : Int)) := hd 0 _ _ _ rfl rfl rfl rfl rfl; exact of_move a0) <|
                  Obls.nil
              intro R w hw hs hF'
              replace h1 : R 1 = (.pointer (some ⟨b1_0, 0, none⟩)) := (hs 1 rfl).trans h1
              replace h4 : R 4 = (.pointer (some ⟨b4_9, 0, none⟩)) := (hs 4 rfl).trans h4
              replace h8 : R 8 = u2 := (hs 8 rfl).trans h8
              replace h9 : R 9 = .int .i64 (p0.length : Int) := (hs 9 rfl).trans h9
              replace h10 : R 10 = .int .i64 y6 := (hs 10 rfl).trans h10
              replace h20 : R 20 = u15 := (hs 20 rfl).trans h20
              replace h21 : R 21 = .int .i64 ((gtD p0 y6).length : Int) := (hs 21 rfl).trans h21
              have h22 : R 22 = .int .i64 (y19 + (1 : Int)) := hF' 1 _ _ rfl rfl rfl
              replace f_u15 := f_u15.fr hw
              replace f_u2 := f_u2.fr hw
              replace hO := hO.fr hw
              replace hA := hA.fr hw.size
              replace hF := hF.trans hw
              clear hs hF' hw
              refine seqR_nil ?_
              exact Exists.intro k (And.intro (Nat.lt_succ_self k) ⟨_, _, hr, hA, hF, hAA, hO, h1, h4, h8, h9, h10, h20, h21, h22, f_u15, f_u2⟩)
          · have hr := cnd_f c20 hr
            refine HT.exit ?_
            obtain rfl := Option.some.inj hr
            replace hO : IniOK [ob (.pointer (some ⟨b1_0, 0, none⟩)) (.box w0.heap.size 24 E_impl_RuleSet p0)] A w := hO.sub [(0, ob (.pointer (some ⟨b1_0, 0, none⟩)) (.box w0.heap.size 24 E_impl_RuleSet p0))] ⟨rfl, rfl, trivial⟩
            exact Exists.intro _ ⟨_, rfl, hA, hF, hAA, hO, h1, h8, h9, h10, f_u2⟩
        rintro R w ⟨A, s18, rfl, hA, hF, hAA, hO, h1, h8, h9, h10, f_u2⟩
        have hr := exM_go hr
        obtain ⟨e40, hr⟩ := ck_some hr
        refine HT.text (l := ⟨_, true, .raw (.int .i64 (y6 + (1 : Int)))⟩ :: ⟨_, true, .raw (.int .i64 (y6 + (1 : Int)))⟩ :: []) (tl := []) (by kernel_rfl) (by kernel_rfl) (by kernel_rfl) ?_ ?_
        · exact
            Obls.cons (Obl.plain rfl rfl fun R' w' hw hs hd => by have a0 : R' 10 = .int .i64 y6 := (hs 10 rfl).trans h10; exact of_add a0 rfl e40) <|
            Obls.cons (Obl.plain rfl rfl fun R' w' hw hs hd => by have a0 : R' 54 = .int .i64 (y6 + (1 : Int)) := hd 0 _ _ _ rfl rfl rfl rfl rfl; exact of_move a0) <|
            Obls.nil
        intro R w hw hs hF'
        replace h1 : R 1 = (.pointer (some ⟨b1_0, 0, none⟩)) := (hs 1 rfl).trans h1
        replace h8 : R 8 = u2 := (hs 8 rfl).trans h8
        replace h9 : R 9 = .int .i64 (p0.length : Int) := (hs 9 rfl).trans h9
        have h10 : R 10 = .int .i64 (y6 + (1 : Int)) := hF' 1 _ _ rfl rfl rfl
        replace f_u2 := f_u2.fr hw
        replace hO := hO.fr hw
        replace hA := hA.fr hw.size
        replace hF := hF.trans hw
        clear hs hF' hw
        refine seqR_nil ?_
        exact Exists.intro k (And.intro (Nat.lt_succ_self k) ⟨_, _, hr, hA, hF, hAA, hO, h1, h8, h9, h10, f_u2⟩)
    · have hr := cnd_f c7 hr
      refine HT.exit ?_
      obtain rfl := Option.some.inj hr
      exact Exists.intro _ ⟨_, rfl, hA, hF, hAA, hO, h1⟩
  rintro R w ⟨A, s5, rfl, hA, hF, hAA, hO, h1⟩
  have hr := exM_go hr
  refine HT.seq ?_
  obtain ⟨x41, q42, hr⟩ := cl_some hr
  refine HT.text (l := ⟨_, true, .raw (.pointer (some ⟨b1_0, 0, none⟩))⟩ :: ⟨_, true, .rep (eSl E_impl_Rule) A p0⟩ :: ⟨_, true, .raw (.int .i64 (p0.length : Int))⟩ :: ⟨_, true, .raw (.bool x41)⟩ :: ⟨_, true, .raw (.bool x41)⟩ :: []) (tl := []) (by kernel_rfl) (by kernel_rfl) (by kernel_rfl) ?_ ?_
  · exact
      Obls.cons (Obl.plain rfl rfl fun R' w' hw hs hd => by have a0 : R' 1 = (.pointer (some ⟨b1_0, 0, none⟩)) := (hs 1 rfl).trans h1; exact of_fieldAddr_raw a0 ff_24_0 Tryd.sizeOf22 (by decide) rfl) <|
      Obls.cons (Obl.plain rfl rfl fun R' w' hw hs hd => by have a0 : R' 55 = (.pointer (some ⟨b1_0, 0, none⟩)) := hd 0 _ _ _ rfl rfl rfl rfl rfl; exact (of_load_box ((hO.fr hw).ok 0 _ rfl).1 a0 fl_impl_RuleSet_0 rfl Tryd.isAgg22 Tryd.sizeOf22)) <|
      Obls.cons (Obl.plain rfl rfl fun R' w' hw hs hd => by have a0 : Rep (eSl E_impl_Rule) A w' (R' 56) p0 := hd 0 _ _ _ rfl rfl rfl rfl rfl; exact of_len_sl (aT := #[]) a0 Tryd.underlying22) <|
      Obls.cons (Obl.plain rfl rfl fun R' w' hw hs hd => by have a0 : R' 57 = .int .i64 (p0.length : Int) := hd 0 _ _ _ rfl rfl rfl rfl rfl; exact of_call Tryd.call39 (M_impl_within_ok (q42 rfl) (hA.fr hw.size) a0 rfl rfl)) <|
      Obls.cons (Obl.plain rfl rfl fun R' w' hw hs hd => by have a0 : R' 58 = .bool x41 := hd 0 _ _ _ rfl rfl rfl rfl rfl; exact of_assign a0) <|
      Obls.nil
  intro R w hw hs hF'
  have h2 : R 2 = .bool x41 := hF' 4 _ _ rfl rfl rfl
  replace hO := hO.fr hw
  replace hO : IniOK [] A w := hO.sub [] trivial
  replace hA := hA.fr hw.size
  replace hF := hF.trans hw
  clear hs hF' hw
  refine seqR_nil ?_
  refine HT.ret ?_
  obtain rfl := Option.some.inj hr
  exact ⟨.inr rfl, [R 2], ⟨rfl, trivial⟩, h2, hF⟩
def M_impl_testText (fu : Nat) (p0 : T_impl_Test) : Option (List UInt8) :=
  bif p0.2.2 then (
    ck (inR p0.1 featL.length) <|
    ck (lenOK ((gtD featL p0.1) ++ ([60] : List UInt8)).length) <|
    cl true (M_impl_FormatInt fu p0.2.1) fun x7 =>
    ck (lenOK (((gtD featL p0.1) ++ ([60] : List UInt8)) ++ x7).length) <|
    some (((gtD featL p0.1) ++ ([60] : List UInt8)) ++ x7)
  ) else (
    ck (inR p0.1 featL.length) <|
    ck (lenOK ((gtD featL p0.1) ++ ([62, 61] : List UInt8)).length) <|
    cl true (M_impl_FormatInt fu p0.2.1) fun x13 =>
    ck (lenOK (((gtD featL p0.1) ++ ([62, 61] : List UInt8)) ++ x13).length) <|
    some (((gtD featL p0.1) ++ ([62, 61] : List UInt8)) ++ x13)
  )
set_option maxRecDepth 100000 in
set_option maxHeartbeats 4000000 in
theorem M_impl_testText_ok {fu : Nat} {A0 : Av} {p0 : T_impl_Test} {r : List UInt8} (hr : M_impl_testText fu p0 = some r) {w : World} {v0 : Value} (hA : AvOK A0 w) (hG : GTab w) (h0 : Rep E_impl_Test A0 w v0 p0) :
    Calls Tryd.prog 27 #[v0] w fun e w' => ∃ v, e = .returned v ∧ (Rep eStr A0 w' v r ∧ Fr w w') := by
  unfold M_impl_testText at hr
  obtain ⟨w0, hw0⟩ : ∃ w0, w0 = w := ⟨_, rfl⟩
  have hF : Fr w0 w := hw0 ▸ Fr.refl _
  have hA0 : ∀ b o, A0 b o → b < w0.heap.size := fun b o h => hw0 ▸ hA b o h
  have hA00 : AvOK A0 w0 := hA0
  rw [show Fr w = Fr w0 from hw0 ▸ rfl]
  have hG0 : GTab w0 := hw0 ▸ hG
  clear hw0
  obtain ⟨A, hAe⟩ : ∃ A, A = A0 := ⟨_, rfl⟩
  have hAA : ∀ b o, A0 b o → A b o := fun b o h => hAe ▸ h
  replace hA : AvOK A w := hAe ▸ hA
  have hO : IniOK [] A w := IniOK.nil
  refine calls_of_HT2 [.tmp 2] Tryd.func27 Tryd.ntmps27 (by decide) rfl rfl (Nat.le_of_ble_eq_true rfl) ?_
  intro R hR
  have f_v0 : Rep E_impl_Test A w v0 p0 := hAe ▸ h0
  replace h0 : R 0 = v0 := hR 0 _ rfl
  clear hR hAe
  refine HT.seq ?_
  refine HT.textR [] (⟨_, true, [], some (.box w0.heap.size 36 E_impl_Test p0), true, fun A => .any⟩ :: ⟨_, true, [], none, true, fun A => .rep eStr A ([] : List UInt8)⟩ :: []) (by kernel_rfl) (by kernel_rfl) (Wf.mk' (by kernel_rfl) (UAll.cons ust_any (UAll.cons ust_rep (UAll.nil))) (by kernel_rfl) (by kernel_rfl)) hO hA ?_ ?_
  · exact
      OblsR.cons (OblR.made _ rfl rfl rfl rfl fun A' R' w' ho hd => by have a0 : R' 0 = v0 := (ho.old 0 rfl).trans h0; have ra0 := (f_v0.stp ho.stp).eq a0; exact made_box ra0 (Nat.le_trans hF.size ho.ch.size)) <|
      OblsR.cons (OblR.plain rfl rfl rfl rfl fun A' R' w' ho hd => by exact of_assign ⟨_, rfl, ⟨_, rfl, rfl, by decide⟩⟩) <|
      OblsR.nil
  intro done ρ σ A R w hdn hI
  obtain ⟨b1_0, e_b1_0⟩ := hI.boxv hdn 0 rfl rfl
  have h1 : R 1 = (.pointer (some ⟨b1_0, 0, none⟩)) := (hI.opvR hdn 0 0 rfl rfl rfl rfl rfl).symm.trans e_b1_0
  replace hAA := hI.low' hAA hA0 (hO.ge (trivial))
  replace hF : Fr w0 w := hF.tr hI.ch (hO.ge (trivial))
  replace hO : IniOK [ob (.pointer (some ⟨b1_0, 0, none⟩)) (.box w0.heap.size 36 E_impl_Test p0)] A w := hI.left hdn [(0, ob (.pointer (some ⟨b1_0, 0, none⟩)) (.box w0.heap.size 36 E_impl_Test p0))] ⟨rfl, rfl, e_b1_0, rfl, rfl, trivial⟩
  replace hA := hI.avok
  clear hI
  refine HT.seq ?_
  refine HT.text (l := ⟨_, true, .rep eStr A ([62, 61] : List UInt8)⟩ :: []) (tl := []) (by kernel_rfl) (by kernel_rfl) (by kernel_rfl) ?_ ?_
  · exact
      Obls.cons (Obl.plain rfl rfl fun R' w' hw hs hd => by exact of_assign ⟨_, rfl, ⟨_, rfl, rfl, by decide⟩⟩) <|
      Obls.nil
  intro R w hw hs hF'
  replace h1 : R 1 = (.pointer (some ⟨b1_0, 0, none⟩)) := (hs 1 rfl).trans h1
  obtain ⟨u2, h3, f_u2⟩ : ∃ u, R 3 = u ∧ Rep eStr A w u ([62, 61] : List UInt8) := ⟨_, rfl, hF' 0 _ _ rfl rfl rfl⟩
  replace hO := hO.fr hw
  replace hA := hA.fr hw.size
  replace hF := hF.trans hw
  clear hs hF' hw
  refine seqR_nil ?_
  refine HT.seq ?_
  refine HT.seq ?_
  refine HT.text (l := ⟨_, true, .raw (.pointer (some ⟨b1_0, 2, none⟩))⟩ :: ⟨_, true, .raw (.bool p0.2.2)⟩ :: []) (tl := []) (by kernel_rfl) (by kernel_rfl) (by kernel_rfl) ?_ ?_
  · exact
      Obls.cons (Obl.plain rfl rfl fun R' w' hw hs hd => by have a0 : R' 1 = (.pointer (some ⟨b1_0, 0, none⟩)) := (hs 1 rfl).trans h1; exact of_fieldAddr_raw a0 ff_36_2 Tryd.sizeOf4 (by decide) rfl) <|
      Obls.cons (Obl.plain rfl rfl fun R' w' hw hs hd => by have a0 : R' 4 = (.pointer (some ⟨b1_0, 2, none⟩)) := hd 0 _ _ _ rfl rfl rfl rfl rfl; exact OpF.bool (of_load_box ((hO.fr hw).ok 0 _ rfl).1 a0 fl_impl_Test_2 rfl Tryd.isAgg4 Tryd.sizeOf4)) <|
      Obls.nil
  intro R w hw hs hF'
  replace h1 : R 1 = (.pointer (some ⟨b1_0, 0, none⟩)) := (hs 1 rfl).trans h1
  replace h3 : R 3 = u2 := (hs 3 rfl).trans h3
  have h5 : R 5 = .bool p0.2.2 := hF' 1 _ _ rfl rfl rfl
  replace f_u2 := f_u2.fr hw
  replace hO := hO.fr hw
  replace hA := hA.fr hw.size
  replace hF := hF.trans hw
  clear hs hF' hw
  refine seqR_nil ?_
  refine HT.cond p0.2.2 h5 (fun c3 => ?_) (fun c3 => ?_)
  · have hr := cnd_t c3 hr
    refine HT.text (l := ⟨_, true, .rep eStr A ([60] : List UInt8)⟩ :: []) (tl := []) (by kernel_rfl) (by kernel_rfl) (by kernel_rfl) ?_ ?_
    · exact
        Obls.cons (Obl.plain rfl rfl fun R' w' hw hs hd => by exact of_assign ⟨_, rfl, ⟨_, rfl, rfl, by decide⟩⟩) <|
        Obls.nil
    intro R w hw hs hF'
    replace h1 : R 1 = (.pointer (some ⟨b1_0, 0, none⟩)) := (hs 1 rfl).trans h1
    obtain ⟨u4, h3, f_u4⟩ : ∃ u, R 3 = u ∧ Rep eStr A w u ([60] : List UInt8) := ⟨_, rfl, hF' 0 _ _ rfl rfl rfl⟩
    replace hO := hO.fr hw
    replace hA := hA.fr hw.size
    replace hF := hF.trans hw
    clear hs hF' hw
    refine seqR_nil ?_
    refine HT.seq ?_
    obtain ⟨e5, hr⟩ := ck_some hr
    obtain ⟨e6, hr⟩ := ck_some hr
    obtain ⟨x7, q8, hr⟩ := cl_some hr
    obtain ⟨e9, hr⟩ := ck_some hr
    refine HT.draw (by kernel_rfl) (l := ⟨_, true, .raw (.pointer (some ⟨b1_0, 0, none⟩))⟩ :: ⟨_, true, .raw (.int .i64 p0.1)⟩ :: ⟨_, true, .raw (.pointer (some ⟨0, p0.1.toNat, none⟩))⟩ :: ⟨_, true, .rep eStr A (gtD featL p0.1)⟩ :: ⟨_, true, .raw u4⟩ :: ⟨_, true, .rep eStr A ((gtD featL p0.1) ++ ([60] : List UInt8))⟩ :: ⟨_, true, .raw (.pointer (some ⟨b1_0, 1, none⟩))⟩ :: ⟨_, true, .raw (.int .i64 p0.2.1)⟩ :: ⟨_, true, .rep eStr A x7⟩ :: ⟨_, true, .rep eStr A (((gtD featL p0.1) ++ ([60] : List UInt8)) ++ x7)⟩ :: ⟨_, true, .rep eStr A (((gtD featL p0.1) ++ ([60] : List UInt8)) ++ x7)⟩ :: []) (tl := []) (by kernel_rfl) (by kernel_rfl) (by kernel_rfl) (by kernel_rfl) ?_ ?_
    · exact
        Obls.cons (Obl.plain rfl rfl fun R' w' hw hs hd => by have a0 : R' 1 = (.pointer (some ⟨b1_0, 0, none⟩)) := (hs 1 rfl).trans h1; exact of_fieldAddr_raw a0 ff_36_0 Tryd.sizeOf3 (by decide) rfl) <|
        Obls.cons (Obl.plain rfl rfl fun R' w' hw hs hd => by have a0 : R' 6 = (.pointer (some ⟨b1_0, 0, none⟩)) := hd 0 _ _ _ rfl rfl rfl rfl rfl; exact OpF.int (of_load_box ((hO.fr hw).ok 0 _ rfl).1 a0 fl_impl_Test_0 rfl Tryd.isAgg3 Tryd.sizeOf3)) <|
        Obls.cons (Obl.plain rfl rfl fun R' w' hw hs hd => by have a1 : R' 7 = .int .i64 p0.1 := hd 0 _ _ _ rfl rfl rfl rfl rfl; exact of_indexAddr_g a1 Tryd.underlying52 Tryd.sizeOf9 e5) <|
        Obls.cons (Obl.plain rfl rfl fun R' w' hw hs hd => by have a0 : R' 8 = (.pointer (some ⟨0, p0.1.toNat, none⟩)) := hd 0 _ _ _ rfl rfl rfl rfl rfl; exact (of_load ((hG0.fr (hF.trans hw)).featAt e5 (a0)) Tryd.isAgg9 Tryd.sizeOf9)) <|
        Obls.cons (Obl.plain rfl rfl fun R' w' hw hs hd => by have a0 : R' 3 = u4 := (hs 3 rfl).trans h3; exact of_move a0) <|
        Obls.cons (Obl.plain rfl rfl fun R' w' hw hs hd => by have a0 : Rep eStr A w' (R' 9) (gtD featL p0.1) := hd 0 _ _ _ rfl rfl rfl rfl rfl; have a1 : R' 10 = u4 := hd 1 _ _ _ rfl rfl rfl rfl rfl; have ra1 := (f_u4.fr hw).eq a1; exact of_cat a0 ra1 e6) <|
        Obls.cons (Obl.plain rfl rfl fun R' w' hw hs hd => by have a0 : R' 1 = (.pointer (some ⟨b1_0, 0, none⟩)) := (hs 1 rfl).trans h1; exact of_fieldAddr_raw a0 ff_36_1 Tryd.sizeOf3 (by decide) rfl) <|
        Obls.cons (Obl.plain rfl rfl fun R' w' hw hs hd => by have a0 : R' 12 = (.pointer (some ⟨b1_0, 1, none⟩)) := hd 0 _ _ _ rfl rfl rfl rfl rfl; exact OpF.int (of_load_box ((hO.fr hw).ok 0 _ rfl).1 a0 fl_impl_Test_1 rfl Tryd.isAgg3 Tryd.sizeOf3)) <|
        Obls.cons (Obl.plain rfl rfl fun R' w' hw hs hd => by have a0 : R' 13 = .int .i64 p0.2.1 := hd 0 _ _ _ rfl rfl rfl rfl rfl; exact of_call Tryd.call38 (M_impl_FormatInt_ok (q8 rfl) (hA.fr hw.size) (hG0.fr (hF.trans hw)) a0)) <|
        Obls.cons (Obl.plain rfl rfl fun R' w' hw hs hd => by have a0 : Rep eStr A w' (R' 11) ((gtD featL p0.1) ++ ([60] : List UInt8)) := hd 0 _ _ _ rfl rfl rfl rfl rfl; have a1 : Rep eStr A w' (R' 14) x7 := hd 1 _ _ _ rfl rfl rfl rfl rfl; exact of_cat a0 a1 e9) <|
        Obls.cons (Obl.plain rfl rfl fun R' w' hw hs hd => by have a0 : Rep eStr A w' (R' 15) (((gtD featL p0.1) ++ ([60] : List UInt8)) ++ x7) := hd 0 _ _ _ rfl rfl rfl rfl rfl; exact of_assign a0) <|
        Obls.nil
    intro R w hw hs hF'
    obtain ⟨u10, h2, f_u10⟩ : ∃ u, R 2 = u ∧ Rep eStr A w u (((gtD featL p0.1) ++ ([60] : List UInt8)) ++ x7) := ⟨_, rfl, hF' 10 _ _ rfl rfl rfl⟩
    replace hO := hO.fr hw
    replace hO : IniOK [] A w := hO.sub [] trivial
    replace hA := hA.fr hw.size
    replace hF := hF.trans hw
    clear hs hF' hw
    refine seqR_nil ?_
    refine HT.ret ?_
    obtain rfl := Option.some.inj hr
    exact ⟨.inr rfl, [R 2], ⟨rfl, trivial⟩, (f_u10.eq h2).down hAA, hF⟩
  · have hr := cnd_f c3 hr
    refine HT.skip ?_
    refine HT.seq ?_
    obtain ⟨e11, hr⟩ := ck_some hr
    obtain ⟨e12, hr⟩ := ck_some hr
    obtain ⟨x13, q14, hr⟩ := cl_some hr
    obtain ⟨e15, hr⟩ := ck_some hr
    refine HT.draw (by kernel_rfl) (l := ⟨_, true, .raw (.pointer (some ⟨b1_0, 0, none⟩))⟩ :: ⟨_, true, .raw (.int .i64 p0.1)⟩ :: ⟨_, true, .raw (.pointer (some ⟨0, p0.1.toNat, none⟩))⟩ :: ⟨_, true, .rep eStr A (gtD featL p0.1)⟩ :: ⟨_, true, .raw u2⟩ :: ⟨_, true, .rep eStr A ((gtD featL p0.1) ++ ([62, 61] : List UInt8))⟩ :: ⟨_, true, .raw (.pointer (some ⟨b1_0, 1, none⟩))⟩ :: ⟨_, true, .raw (.int .i64 p0.2.1)⟩ :: ⟨_, true, .rep eStr A x13⟩ :: ⟨_, true, .rep eStr A (((gtD featL p0.1) ++ ([62, 61] : List UInt8)) ++ x13)⟩ :: ⟨_, true, .rep eStr A (((gtD featL p0.1) ++ ([62, 61] : List UInt8)) ++ x13)⟩ :: []) (tl := []) (by kernel_rfl) (by kernel_rfl) (by kernel_rfl) (by kernel_rfl) ?_ ?_
    · exact
        Obls.cons (Obl.plain rfl rfl fun R' w' hw hs hd => by have a0 : R' 1 = (.pointer (some ⟨b1_0, 0, none⟩)) := (hs 1 rfl).trans h1; exact of_fieldAddr_raw a0 ff_36_0 Tryd.sizeOf3 (by decide) rfl) <|
        Obls.cons (Obl.plain rfl rfl fun R' w' hw hs hd => by have a0 : R' 6 = (.pointer (some ⟨b1_0, 0, none⟩)) := hd 0 _ _ _ rfl rfl rfl rfl rfl; exact OpF.int (of_load_box ((hO.fr hw).ok 0 _ rfl).1 a0 fl_impl_Test_0 rfl Tryd.isAgg3 Tryd.sizeOf3)) <|
        Obls.cons (Obl.plain rfl rfl fun R' w' hw hs hd => by have a1 : R' 7 = .int .i64 p0.1 := hd 0 _ _ _ rfl rfl rfl rfl rfl; exact of_indexAddr_g a1 Tryd.underlying52 Tryd.sizeOf9 e11) <|
        Obls.cons (Obl.plain rfl rfl fun R' w' hw hs hd => by have a0 : R' 8 = (.pointer (some ⟨0, p0.1.toNat, none⟩)) := hd 0 _ _ _ rfl rfl rfl rfl rfl; exact (of_load ((hG0.fr (hF.trans hw)).featAt e11 (a0)) Tryd.isAgg9 Tryd.sizeOf9)) <|
        Obls.cons (Obl.plain rfl rfl fun R' w' hw hs hd => by have a0 : R' 3 = u2 := (hs 3 rfl).trans h3; exact of_move a0) <|
        Obls.cons (Obl.plain rfl rfl fun R' w' hw hs hd => by have a0 : Rep eStr A w' (R' 9) (gtD featL p0.1) := hd 0 _ _ _ rfl rfl rfl rfl rfl; have a1 : R' 10 = u2 := hd 1 _ _ _ rfl rfl rfl rfl rfl; have ra1 := (f_u2.fr hw).eq a1; exact of_cat a0 ra1 e12) <|
        Obls.cons (Obl.plain rfl rfl fun R' w' hw hs hd => by have a0 : R' 1 = (.pointer (some ⟨b1_0, 0, none⟩)) := (hs 1 rfl).trans h1; exact of_fieldAddr_raw a0 ff_36_1 Tryd.sizeOf3 (by decide) rfl) <|
        Obls.cons (Obl.plain rfl rfl fun R' w' hw hs hd => by have a0 : R' 12 = (.pointer (some ⟨b1_0, 1, none⟩)) := hd 0 _ _ _ rfl rfl rfl rfl rfl; exact OpF.int (of_load_box ((hO.fr hw).ok 0 _ rfl).1 a0 fl_impl_Test_1 rfl Tryd.isAgg3 Tryd.sizeOf3)) <|
        Obls.cons (Obl.plain rfl rfl fun R' w' hw hs hd => by have a0 : R' 13 = .int .i64 p0.2.1 := hd 0 _ _ _ rfl rfl rfl rfl rfl; exact of_call Tryd.call38 (M_impl_FormatInt_ok (q14 rfl) (hA.fr hw.size) (hG0.fr (hF.trans hw)) a0)) <|
        Obls.cons (Obl.plain rfl rfl fun R' w' hw hs hd => by have a0 : Rep eStr A w' (R' 11) ((gtD featL p0.1) ++ ([62, 61] : List UInt8)) := hd 0 _ _ _ rfl rfl rfl rfl rfl; have a1 : Rep eStr A w' (R' 14) x13 := hd 1 _ _ _ rfl rfl rfl rfl rfl; exact of_cat a0 a1 e15) <|
        Obls.cons (Obl.plain rfl rfl fun R' w' hw hs hd => by have a0 : Rep eStr A w' (R' 15) (((gtD featL p0.1) ++ ([62, 61] : List UInt8)) ++ x13) := hd 0 _ _ _ rfl rfl rfl rfl rfl; exact of_assign a0) <|
        Obls.nil
    intro R w hw hs hF'
    obtain ⟨u16, h2, f_u16⟩ : ∃ u, R 2 = u ∧ Rep eStr A w u (((gtD featL p0.1) ++ ([62, 61] : List UInt8)) ++ x13) := ⟨_, rfl, hF' 10 _ _ rfl rfl rfl⟩
    replace hO := hO.fr hw
    replace hO : IniOK [] A w := hO.sub [] trivial
    replace hA := hA.fr hw.size
    replace hF := hF.trans hw
    clear hs hF' hw
    refine seqR_nil ?_
    refine HT.ret ?_
    obtain rfl := Option.some.inj hr
    exact ⟨.inr rfl, [R 2], ⟨rfl, trivial⟩, (f_u16.eq h2).down hAA, hF⟩
def M_impl_FormatRules_L1 (fu : Nat) (p0 : T_impl_RuleSet) (y11 : Int) : Nat → Int → (List (List UInt8)) → Option (List (List UInt8))
  | 0, _, _ => none
  | k + 1, y23, y24 =>
    bif (decide (y23 < ((gtD p0 y11).length : Int))) then (
      ck (inR y23 (gtD p0 y11).length) <|
      cl true (M_impl_testText fu (gtD (gtD p0 y11) y23)) fun x31 =>
      ck (lenOK (y24.length + ([x31] : List (List UInt8)).length)) <|
      ck (i64B (y23 + (1 : Int))) <|
      M_impl_FormatRules_L1 fu p0 y11 k (y23 + (1 : Int)) (y24 ++ ([x31] : List (List UInt8)))
    ) else (
      some y24
    )
def M_impl_FormatRules_L0 (fu : Nat) (p0 : T_impl_RuleSet) : Nat → Int → (List (List UInt8)) → Option (List (List UInt8))
  | 0, _, _ => none
  | k + 1, y11, y12 =>
    bif (decide (y11 < (p0.length : Int))) then (
      ck (inR y11 p0.length) <|
      cl true (M_impl_FormatRules_L1 fu p0 y11 fu (0 : Int) ([] : List (List UInt8))) fun s22 =>
      cl true (M_join fu s22 ([44] : List UInt8)) fun x38 =>
      ck (lenOK (y12.length + ([x38] : List (List UInt8)).length)) <|
      ck (i64B (y11 + (1 : Int))) <|
      M_impl_FormatRules_L0 fu p0 k (y11 + (1 : Int)) (y12 ++ ([x38] : List (List UInt8)))
    ) else (
      some y12
    )
def M_impl_FormatRules (fu : Nat) (p0 : T_impl_RuleSet) : Option (List UInt8) :=
  cl true (M_impl_IsValidRules fu p0) fun x2 =>
  bif (!x2) then (
    some ([] : List UInt8)
  ) else (
    cl true (M_impl_FormatRules_L0 fu p0 fu (0 : Int) ([] : List (List UInt8))) fun s10 =>
    cl true (M_join fu s10 ([32, 111, 114, 32] : List UInt8)) fun x44 =>
    some x44
  )
set_option maxRecDepth 100000 in
set_option maxHeartbeats 4000000 in
theorem M_impl_FormatRules_ok {fu : Nat} {A0 : Av} {p0 : T_impl_RuleSet} {r : List UInt8} (hr : M_impl_FormatRules fu p0 = some r) {w : World} {v0 : Value} (hA : AvOK A0 w) (hG : GTab w) (h0 : Rep E_impl_RuleSet A0 w v0 p0) :
    Calls Tryd.prog 14 #[v0] w fun e w' => ∃ v, e = .returned v ∧ (Rep eStr A0 w' v r ∧ Fr w w') := by
  unfold M_impl_FormatRules at hr
  obtain ⟨w0, hw0⟩ : ∃ w0, w0 = w := ⟨_, rfl⟩
  have hF : Fr w0 w := hw0 ▸ Fr.refl _
  have hA0 : ∀ b o, A0 b o → b < w0.heap.size := fun b o h => hw0 ▸ hA b o h
  have hA00 : AvOK A0 w0 := hA0
  rw [show Fr w = Fr w0 from hw0 ▸ rfl]
  have hG0 : GTab w0 := hw0 ▸ hG
  clear hw0
  obtain ⟨A, hAe⟩ : ∃ A, A = A0 := ⟨_, rfl⟩
  have hAA : ∀ b o, A0 b o → A b o := fun b o h => hAe ▸ h
  replace hA : AvOK A w := hAe ▸ hA
  have hO : IniOK [] A w := IniOK.nil
  refine calls_of_HT2 [.tmp 2] Tryd.func14 Tryd.ntmps14 (by decide) rfl rfl (Nat.le_of_ble_eq_true rfl) ?_
  intro R hR
  have f_v0 : Rep E_impl_RuleSet A w v0 p0 := hAe ▸ h0
  replace h0 : R 0 = v0 := hR 0 _ rfl
  clear hR hAe
  refine HT.seq ?_
  refine HT.textR [] (⟨_, true, [], some (.box w0.heap.size 24 E_impl_RuleSet p0), true, fun A => .any⟩ :: ⟨_, true, [], none, true, fun A => .rep eStr A ([] : List UInt8)⟩ :: []) (by kernel_rfl) (by kernel_rfl) (Wf.mk' (by kernel_rfl) (UAll.cons ust_any (UAll.cons ust_rep (UAll.nil))) (by kernel_rfl) (by kernel_rfl)) hO hA ?_ ?_
  · exact
      OblsR.cons (OblR.made _ rfl rfl rfl rfl fun A' R' w' ho hd => by have a0 : R' 0 = v0 := (ho.old 0 rfl).trans h0; have ra0 := (f_v0.stp ho.stp).eq a0; exact made_box ra0 (Nat.le_trans hF.size ho.ch.size)) <|
      OblsR.cons (OblR.plain rfl rfl rfl rfl fun A' R' w' ho hd => by exact of_assign ⟨_, rfl, ⟨_, rfl, rfl, by decide⟩⟩) <|
      OblsR.nil
  intro done ρ σ A R w hdn hI
  obtain ⟨b1_0, e_b1_0⟩ := hI.boxv hdn 0 rfl rfl
  have h1 : R 1 = (.pointer (some ⟨b1_0, 0, none⟩)) := (hI.opvR hdn 0 0 rfl rfl rfl rfl rfl).symm.trans e_b1_0
  replace hAA := hI.low' hAA hA0 (hO.ge (trivial))
  replace hF : Fr w0 w := hF.tr hI.ch (hO.ge (trivial))
  replace hO : IniOK [ob (.pointer (some ⟨b1_0, 0, none⟩)) (.box w0.heap.size 24 E_impl_RuleSet p0)] A w := hI.left hdn [(0, ob (.pointer (some ⟨b1_0, 0, none⟩)) (.box w0.heap.size 24 E_impl_RuleSet p0))] ⟨rfl, rfl, e_b1_0, rfl, rfl, trivial⟩
  replace hA := hI.avok
  clear hI
  refine HT.seq ?_
  refine HT.seq ?_
  obtain ⟨x2, q3, hr⟩ := cl_some hr
  refine HT.text (l := ⟨_, true, .rep E_impl_RuleSet A p0⟩ :: ⟨_, true, .raw (.bool x2)⟩ :: ⟨_, true, .raw (.bool (!x2))⟩ :: []) (tl := []) (by kernel_rfl) (by kernel_rfl) (by kernel_rfl) ?_ ?_
  · exact
      Obls.cons (Obl.plain rfl rfl fun R' w' hw hs hd => by have a0 : R' 1 = (.pointer (some ⟨b1_0, 0, none⟩)) := (hs 1 rfl).trans h1; exact (of_load_box ((hO.fr hw).ok 0 _ rfl).1 a0 (Fld.id _) rfl Tryd.isAgg24 Tryd.sizeOf24)) <|
      Obls.cons (Obl.plain rfl rfl fun R' w' hw hs hd => by have a0 : Rep E_impl_RuleSet A w' (R' 9) p0 := hd 0 _ _ _ rfl rfl rfl rfl rfl; exact of_call Tryd.call26 (M_impl_IsValidRules_ok (q3 rfl) (hA.fr hw.size) a0)) <|
      Obls.cons (Obl.plain rfl rfl fun R' w' hw hs hd => by have a0 : R' 10 = .bool x2 := hd 0 _ _ _ rfl rfl rfl rfl rfl; exact of_not a0) <|
      Obls.nil
  intro R w hw hs hF'
  replace h1 : R 1 = (.pointer (some ⟨b1_0, 0, none⟩)) := (hs 1 rfl).trans h1
  have h11 : R 11 = .bool (!x2) := hF' 2 _ _ rfl rfl rfl
  replace hO := hO.fr hw
  replace hA := hA.fr hw.size
  replace hF := hF.trans hw
  clear hs hF' hw
  refine seqR_nil ?_
  refine HT.cond (!x2) h11 (fun c4 => ?_) (fun c4 => ?_)
  · have hr := cnd_t c4 hr
    refine HT.seq ?_
    refine HT.text (l := ⟨_, true, .rep eStr A ([] : List UInt8)⟩ :: []) (tl := []) (by kernel_rfl) (by kernel_rfl) (by kernel_rfl) ?_ ?_
    · exact
        Obls.cons (Obl.plain rfl rfl fun R' w' hw hs hd => by exact of_assign ⟨_, rfl, ⟨_, rfl, rfl, by decide⟩⟩) <|
        Obls.nil
    intro R w hw hs hF'
    obtain ⟨u5, h2, f_u5⟩ : ∃ u, R 2 = u ∧ Rep eStr A w u ([] : List UInt8) := ⟨_, rfl, hF' 0 _ _ rfl rfl rfl⟩
    replace hO := hO.fr hw
    replace hO : IniOK [] A w := hO.sub [] trivial
    replace hA := hA.fr hw.size
    replace hF := hF.trans hw
    clear hs hF' hw
    refine seqR_nil ?_
    refine HT.ret ?_
    obtain rfl := Option.some.inj hr
    exact ⟨.inr rfl, [R 2], ⟨rfl, trivial⟩, (f_u5.eq h2).down hAA, hF⟩
  · have hr := cnd_f c4 hr
    refine HT.skip ?_
    refine HT.seq ?_
    refine HT.text (l := ⟨_, true, .raw (.slice none 0 0)⟩ :: []) (tl := []) (by kernel_rfl) (by kernel_rfl) (by kernel_rfl) ?_ ?_
    · exact
        Obls.cons (Obl.plain rfl rfl fun R' w' hw hs hd => by exact of_assign rfl) <|
        Obls.nil
    intro R w hw hs hF'
    replace h1 : R 1 = (.pointer (some ⟨b1_0, 0, none⟩)) := (hs 1 rfl).trans h1
    obtain ⟨u6, n_u6⟩ : ∃ u, u = Value.slice none 0 0 := ⟨_, rfl⟩
    have h3 : R 3 = u6 := (hF' 0 _ _ rfl rfl rfl).trans n_u6.symm
    replace hO := hO.fr hw
    replace hA := hA.fr hw.size
    replace hF := hF.trans hw
    clear hs hF' hw
    refine seqR_nil ?_
    replace hO := hO.nilcons (u := u6) n_u6 w0.heap.size 9 eStr
    refine HT.seq ?_
    refine HT.seq ?_
    refine HT.text (l := ⟨_, true, .raw (.pointer (some ⟨b1_0, 0, none⟩))⟩ :: ⟨_, true, .rep (eSl E_impl_Rule) A p0⟩ :: ⟨_, true, .raw (.int .i64 (p0.length : Int))⟩ :: ⟨_, true, .raw (.int .i64 (0 : Int))⟩ :: []) (tl := []) (by kernel_rfl) (by kernel_rfl) (by kernel_rfl) ?_ ?_
    · exact
        Obls.cons (Obl.plain rfl rfl fun R' w' hw hs hd => by have a0 : R' 1 = (.pointer (some ⟨b1_0, 0, none⟩)) := (hs 1 rfl).trans h1; exact of_fieldAddr_raw a0 ff_24_0 Tryd.sizeOf22 (by decide) rfl) <|
        Obls.cons (Obl.plain rfl rfl fun R' w' hw hs hd => by have a0 : R' 12 = (.pointer (some ⟨b1_0, 0, none⟩)) := hd 0 _ _ _ rfl rfl rfl rfl rfl; exact (of_load_box ((hO.fr hw).ok 1 _ rfl).1 a0 fl_impl_RuleSet_0 rfl Tryd.isAgg22 Tryd.sizeOf22)) <|
        Obls.cons (Obl.plain rfl rfl fun R' w' hw hs hd => by have a0 : Rep (eSl E_impl_Rule) A w' (R' 13) p0 := hd 0 _ _ _ rfl rfl rfl rfl rfl; exact of_len_sl (aT := #[]) a0 Tryd.underlying22) <|
        Obls.cons (Obl.plain rfl rfl fun R' w' hw hs hd => by exact of_move rfl) <|
        Obls.nil
    intro R w hw hs hF'
    replace h3 : R 3 = u6 := (hs 3 rfl).trans h3
    obtain ⟨u7, h13, f_u7⟩ : ∃ u, R 13 = u ∧ Rep (eSl E_impl_Rule) A w u p0 := ⟨_, rfl, hF' 1 _ _ rfl rfl rfl⟩
    have h14 : R 14 = .int .i64 (p0.length : Int) := hF' 2 _ _ rfl rfl rfl
    have h15 : R 15 = .int .i64 (0 : Int) := hF' 3 _ _ rfl rfl rfl
    replace hO := hO.fr hw
    replace hO : IniOK [ob u6 (.vec w0.heap.size 9 eStr ([] : List (List UInt8)))] A w := hO.sub [(0, ob u6 (.vec w0.heap.size 9 eStr ([] : List (List UInt8))))] ⟨rfl, rfl, trivial⟩
    replace hA := hA.fr hw.size
    replace hF := hF.trans hw
    clear hs hF' hw
    refine seqR_nil ?_
    obtain ⟨rl8, q9, hr⟩ := cl_some hr
    replace q9 := q9 rfl
    refine HT.cut0 (fun R w => ∃ A : Av, ∃ (s10 : (List (List UInt8))) (uo_u6 : Value), rl8 = s10 ∧ AvOK A w ∧ Fr w0 w ∧ (∀ b o, A0 b o → A b o) ∧ IniOK [ob uo_u6 (.vec w0.heap.size 9 eStr s10)] A w ∧ R 3 = uo_u6) ?_ ?_
    · refine HT.block ?_
      refine HT.loop (fun k R w => ∃ A : Av, ∃ (y11 : Int) (y12 : List (List UInt8)) (ul_u6 : Value), M_impl_FormatRules_L0 fu p0 k y11 y12 = some rl8 ∧ AvOK A w ∧ Fr w0 w ∧ (∀ b o, A0 b o → A b o) ∧ IniOK [ob ul_u6 (.vec w0.heap.size 9 eStr y12)] A w ∧ R 3 = ul_u6 ∧ R 13 = u7 ∧ R 14 = .int .i64 (p0.length : Int) ∧ R 15 = .int .i64 y11 ∧ Rep (eSl E_impl_Rule) A w u7 p0) fu ⟨_, _, _, u6, q9, hA, hF, hAA, hO, h3, h13, h14, h15, f_u7⟩ ?_
      have hr0 := hr; clear hr q9
      rintro k R w ⟨A, y11, y12, ul_u6, hr, hA, hF, hAA, hO, h3, h13, h14, h15, f_u7⟩
      rcases k with _ | k
      · cases (show none = some _ from hr)
      rw [M_impl_FormatRules_L0] at hr
      refine HT.seq ?_
      refine HT.text (l := ⟨_, true, .raw (.bool (decide (y11 < (p0.length : Int))))⟩ :: []) (tl := []) (by kernel_rfl) (by kernel_rfl) (by kernel_rfl) ?_ ?_
      · exact
          Obls.cons (Obl.plain rfl rfl fun R' w' hw hs hd => by have a0 : R' 15 = .int .i64 y11 := (hs 15 rfl).trans h15; have a1 : R' 14 = .int .i64 (p0.length : Int) := (hs 14 rfl).trans h14; exact of_lss a0 a1) <|
          Obls.nil
      intro R w hw hs hF'
      replace h3 : R 3 = ul_u6 := (hs 3 rfl).trans h3
      replace h13 : R 13 = u7 := (hs 13 rfl).trans h13
      replace h14 : R 14 = .int .i64 (p0.length : Int) := (hs 14 rfl).trans h14
      replace h15 : R 15 = .int .i64 y11 := (hs 15 rfl).trans h15
      have h16 : R 16 = .bool (decide (y11 < (p0.length : Int))) := hF' 0 _ _ rfl rfl rfl
      replace f_u7 := f_u7.fr hw
      replace hO := hO.fr hw
      replace hA := hA.fr hw.size
      replace hF := hF.trans hw
      clear hs hF' hw
      refine seqR_nil ?_
      refine HT.seq ?_
      refine HT.cond (decide (y11 < (p0.length : Int))) h16 (fun c13 => ?_) (fun c13 => ?_)
      · have hr := cnd_t c13 hr
        refine HT.skip ?_
        refine HT.seq ?_
        refine HT.block ?_
        refine HT.seq ?_
        obtain ⟨e14, hr⟩ := ck_some hr
        refine HT.textR [ob ul_u6 (.vec w0.heap.size 9 eStr y12)] (⟨_, true, [], none, true, fun A => .qtr E_impl_Rule A (gtD p0 y11)⟩ :: ⟨_, true, [], none, true, fun A => .rep E_impl_Rule A (gtD p0 y11)⟩ :: ⟨_, true, [], some (.box w0.heap.size 32 E_impl_Rule ([] : List T_impl_Test)), true, fun A => .any⟩ :: ⟨_, true, [3], some (.box w0.heap.size 32 E_impl_Rule (gtD p0 y11)), false, fun A => .any⟩ :: []) (by kernel_rfl) (by kernel_rfl) (Wf.mk' (by kernel_rfl) (UAll.cons ust_qtr (UAll.cons ust_rep (UAll.cons ust_any (UAll.cons ust_any (UAll.nil))))) (by kernel_rfl) (by kernel_rfl)) hO hA ?_ ?_
        · exact
            OblsR.cons (OblR.plain rfl rfl rfl rfl fun A' R' w' ho hd => by have a0 : R' 13 = u7 := (ho.old 13 rfl).trans h13; have a1 : R' 15 = .int .i64 y11 := (ho.old 15 rfl).trans h15; have ra0 := (f_u7.stp ho.stp).eq a0; exact of_indexAddr ra0 a1 Tryd.underlying22 Tryd.sizeOf32 e14) <|
            OblsR.cons (OblR.plain rfl rfl rfl rfl fun A' R' w' ho hd => by have a0 : QRep E_impl_Rule A' w' (R' 17) (gtD p0 y11) := hd 0 _ _ _ rfl rfl rfl rfl rfl; exact (of_load a0.ptr Tryd.isAgg32 Tryd.sizeOf32)) <|
            OblsR.cons (OblR.made _ rfl rfl rfl rfl fun A' R' w' ho hd => by exact made_alloc Tryd.zeroValue32 (fun A w => rep1_nil) (Nat.le_trans hF.size ho.ch.size)) <|
            OblsR.cons (OblR.took 3 _ _ rfl rfl rfl rfl rfl fun A' R' w' ho hd u hok hav hin hop hds => by have a1 : Rep E_impl_Rule A' w' (R' 18) (gtD p0 y11) := hd 1 _ _ _ rfl rfl rfl rfl rfl; obtain ⟨b, hb, hB', hbx⟩ := hok; have hop' := hop _ _ rfl rfl rfl rfl; exact took_store a1 (hop'.symm.trans hb) hb ⟨b, hb, hB', hbx⟩ hav (FldS.id _) Tryd.sizeOf32 rfl) <|
            OblsR.nil
        intro done ρ σ A R w hdn hI
        replace h3 : R 3 = ul_u6 := (hI.reg rfl).trans h3
        replace h13 : R 13 = u7 := (hI.reg rfl).trans h13
        replace h14 : R 14 = .int .i64 (p0.length : Int) := (hI.reg rfl).trans h14
        replace h15 : R 15 = .int .i64 y11 := (hI.reg rfl).trans h15
        have z15 := hI.inivR 0 rfl
        obtain ⟨b5_15, e_b5_15⟩ := hI.boxv hdn 4 rfl rfl
        have z17 := (hI.opnR hdn 4 3 rfl rfl rfl rfl rfl).symm.trans e_b5_15
        have h5 : R 5 = (.pointer (some ⟨b5_15, 0, none⟩)) := (hI.opvR hdn 3 2 rfl rfl rfl rfl rfl).symm.trans z17
        replace f_u7 := f_u7.stp hI.stp
        replace hAA := hI.low' hAA hA0 (hO.ge (⟨rfl, trivial⟩))
        replace hF : Fr w0 w := hF.tr hI.ch (hO.ge (⟨rfl, trivial⟩))
        replace hO : IniOK [ob ul_u6 (.vec w0.heap.size 9 eStr y12), ob (.pointer (some ⟨b5_15, 0, none⟩)) (.box w0.heap.size 32 E_impl_Rule (gtD p0 y11))] A w := hI.left hdn [(0, ob ul_u6 (.vec w0.heap.size 9 eStr y12)), (4, ob (.pointer (some ⟨b5_15, 0, none⟩)) (.box w0.heap.size 32 E_impl_Rule (gtD p0 y11)))] ⟨rfl, rfl, z15, rfl, rfl, ⟨rfl, rfl, e_b5_15, rfl, rfl, trivial⟩⟩
        replace hA := hI.avok
        clear hI
        refine HT.seq ?_
        refine HT.text (l := ⟨_, true, .raw (.slice none 0 0)⟩ :: []) (tl := []) (by kernel_rfl) (by kernel_rfl) (by kernel_rfl) ?_ ?_
        · exact
            Obls.cons (Obl.plain rfl rfl fun R' w' hw hs hd => by exact of_assign rfl) <|
            Obls.nil
        intro R w hw hs hF'
        replace h3 : R 3 = ul_u6 := (hs 3 rfl).trans h3
        replace h5 : R 5 = (.pointer (some ⟨b5_15, 0, none⟩)) := (hs 5 rfl).trans h5
        replace h13 : R 13 = u7 := (hs 13 rfl).trans h13
        replace h14 : R 14 = .int .i64 (p0.length : Int) := (hs 14 rfl).trans h14
        replace h15 : R 15 = .int .i64 y11 := (hs 15 rfl).trans h15
        obtain ⟨u18, n_u18⟩ : ∃ u, u = Value.slice none 0 0 := ⟨_, rfl⟩
        have h6 : R 6 = u18 := (hF' 0 _ _ rfl rfl rfl).trans n_u18.symm
        replace f_u7 := f_u7.fr hw
        replace hO := hO.fr hw
        replace hA := hA.fr hw.size
        replace hF := hF.trans hw
        clear hs hF' hw
        refine seqR_nil ?_
        replace hO := hO.nilcons (u := u18) n_u18 w0.heap.size 9 eStr
        refine HT.seq ?_
        refine HT.seq ?_
        refine HT.text (l := ⟨_, true, .raw (.pointer (some ⟨b5_15, 0, none⟩))⟩ :: ⟨_, true, .rep (eSl E_impl_Test) A (gtD p0 y11)⟩ :: ⟨_, true, .raw (.int .i64 ((gtD p0 y11).length : Int))⟩ :: ⟨_, true, .raw (.int .i64 (0 : Int))⟩ :: []) (tl := []) (by kernel_rfl) (by kernel_rfl) (by kernel_rfl) ?_ ?_
        · exact
            Obls.cons (Obl.plain rfl rfl fun R' w' hw hs hd => by have a0 : R' 5 = (.pointer (some ⟨b5_15, 0, none⟩)) := (hs 5 rfl).trans h5; exact of_fieldAddr_raw a0 ff_32_0 Tryd.sizeOf30 (by decide) rfl) <|
            Obls.cons (Obl.plain rfl rfl fun R' w' hw hs hd => by have a0 : R' 19 = (.pointer (some ⟨b5_15, 0, none⟩)) := hd 0 _ _ _ rfl rfl rfl rfl rfl; exact (of_load_box ((hO.fr hw).ok 2 _ rfl).1 a0 fl_impl_Rule_0 rfl Tryd.isAgg30 Tryd.sizeOf30)) <|
            Obls.cons (Obl.plain rfl rfl fun R' w' hw hs hd => by have a0 : Rep (eSl E_impl_Test) A w' (R' 20) (gtD p0 y11) := hd 0 _ _ _ rfl rfl rfl rfl rfl; exact of_len_sl (aT := #[]) a0 Tryd.underlying30) <|
            Obls.cons (Obl.plain rfl rfl fun R' w' hw hs hd => by exact of_move rfl) <|
            Obls.nil
        intro R w hw hs hF'
        replace h3 : R 3 = ul_u6 := (hs 3 rfl).trans h3
        replace h6 : R 6 = u18 := (hs 6 rfl).trans h6
        replace h13 : R 13 = u7 := (hs 13 rfl).trans h13
        replace h14 : R 14 = .int .i64 (p0.length : Int) := (hs 14 rfl).trans h14
        replace h15 : R 15 = .int .i64 y11 := (hs 15 rfl).trans h15
        obtain ⟨u19, h20, f_u19⟩ : ∃ u, R 20 = u ∧ Rep (eSl E_impl_Test) A w u (gtD p0 y11) := ⟨_, rfl, hF' 1 _ _ rfl rfl rfl⟩
        have h21 : R 21 = .int .i64 ((gtD p0 y11).length : Int) := hF' 2 _ _ rfl rfl rfl
        have h22 : R 22 = .int .i64 (0 : Int) := hF' 3 _ _ rfl rfl rfl
        replace f_u7 := f_u7.fr hw
        replace hO := hO.fr hw
        replace hO : IniOK [ob u18 (.vec w0.heap.size 9 eStr ([] : List (List UInt8))), ob ul_u6 (.vec w0.heap.size 9 eStr y12)] A w := hO.sub [(0, ob u18 (.vec w0.heap.size 9 eStr ([] : List (List UInt8)))), (1, ob ul_u6 (.vec w0.heap.size 9 eStr y12))] ⟨rfl, rfl, ⟨rfl, rfl, trivial⟩⟩
        replace hA := hA.fr hw.size
        replace hF := hF.trans hw
        clear hs hF' hw
        refine seqR_nil ?_
        obtain ⟨rl20, q21, hr⟩ := cl_some hr
        replace q21 := q21 rfl
        refine HT.cut0 (fun R w => ∃ A : Av, ∃ (s22 : (List (List UInt8))) (uo_u18 : Value), rl20 = s22 ∧ AvOK A w ∧ Fr w0 w ∧ (∀ b o, A0 b o → A b o) ∧ IniOK [ob uo_u18 (.vec w0.heap.size 9 eStr s22), ob ul_u6 (.vec w0.heap.size 9 eStr y12)] A w ∧ R 3 = ul_u6 ∧ R 6 = uo_u18 ∧ R 13 = u7 ∧ R 14 = .int .i64 (p0.length : Int) ∧ R 15 = .int .i64 y11 ∧ Rep (eSl E_impl_Rule) A w u7 p0) ?_ ?_
        · refine HT.block ?_
          refine HT.loop (fun k R w => ∃ A : Av, ∃ (y23 : Int) (y24 : List (List UInt8)) (ul_u18 : Value), M_impl_FormatRules_L1 fu p0 y11 k y23 y24 = some rl20 ∧ AvOK A w ∧ Fr w0 w ∧ (∀ b o, A0 b o → A b o) ∧ IniOK [ob ul_u18 (.vec w0.heap.size 9 eStr y24), ob ul_u6 (.vec w0.heap.size 9 eStr y12)] A w ∧ R 3 = ul_u6 ∧ R 6 = ul_u18 ∧ R 13 = u7 ∧ R 14 = .int .i64 (p0.length : Int) ∧ R 15 = .int .i64 y11 ∧ R 20 = u19 ∧ R 21 = .int .i64 ((gtD p0 y11).length : Int) ∧ R 22 = .int .i64 y23 ∧ Rep (eSl E_impl_Test) A w u19 (gtD p0 y11) ∧ Rep (eSl E_impl_Rule) A w u7 p0) fu ⟨_, _, _, u18, q21, hA, hF, hAA, hO, h3, h6, h13, h14, h15, h20, h21, h22, f_u19, f_u7⟩ ?_
          have hr0 := hr; clear hr q21
          rintro k R w ⟨A, y23, y24, ul_u18, hr, hA, hF, hAA, hO, h3, h6, h13, h14, h15, h20, h21, h22, f_u19, f_u7⟩
          rcases k with _ | k
          · cases (show none = some _ from hr)
          rw [M_impl_FormatRules_L1] at hr
          refine HT.seq ?_
          refine HT.text (l := ⟨_, true, .raw (.bool (decide (y23 < ((gtD p0 y11).length : Int))))⟩ :: []) (tl := []) (by kernel_rfl) (by kernel_rfl) (by kernel_rfl) ?_ ?_
          · exact
              Obls.cons (Obl.plain rfl rfl fun R' w' hw hs hd => by have a0 : R' 22 = .int .i64 y23 := (hs 22 rfl).trans h22; have a1 : R' 21 = .int .i64 ((gtD p0 y11).length : Int) := (hs 21 rfl).trans h21; exact of_lss a0 a1) <|
              Obls.nil
          intro R w hw hs hF'
          replace h3 : R 3 = ul_u6 := (hs 3 rfl).trans h3
          replace h6 : R 6 = ul_u18 := (hs 6 rfl).trans h6
          replace h13 : R 13 = u7 := (hs 13 rfl).trans h13
          replace h14 : R 14 = .int .i64 (p0.length : Int) := (hs 14 rfl).trans h14
          replace h15 : R 15 = .int .i64 y11 := (hs 15 rfl).trans h15
          replace h20 : R 20 = u19 := (hs 20 rfl).trans h20
          replace h21 : R 21 = .int .i64 ((gtD p0 y11).length : Int) := (hs 21 rfl).trans h21
          replace h22 : R 22 = .int .i64 y23 := (hs 22 rfl).trans h22
          have h23 : R 23 = .bool (decide (y23 < ((gtD p0 y11).length : Int))) := hF' 0 _ _ rfl rfl rfl
          replace f_u19 := f_u19.fr hw
          replace f_u7 := f_u7.fr hw
          replace hO := hO.fr hw
          replace hA := hA.fr hw.size
          replace hF := hF.trans hw
          clear hs hF' hw
          refine seqR_nil ?_
          refine HT.seq ?_
          refine HT.cond (decide (y23 < ((gtD p0 y11).length : Int))) h23 (fun c25 => ?_) (fun c25 => ?_)
          · have hr := cnd_t c25 hr
            refine HT.skip ?_
            refine HT.seq ?_
            refine HT.block ?_
            refine HT.seq ?_
            obtain ⟨e26, hr⟩ := ck_some hr
            refine HT.textR [ob ul_u18 (.vec w0.heap.size 9 eStr y24), ob ul_u6 (.vec w0.heap.size 9 eStr y12)] (⟨_, true, [], none, true, fun A => .qtr E_impl_Test A (gtD (gtD p0 y11) y23)⟩ :: ⟨_, true, [], none, true, fun A => .rep E_impl_Test A (gtD (gtD p0 y11) y23)⟩ :: ⟨_, true, [], some (.box w0.heap.size 36 E_impl_Test ((0 : Int), ((0 : Int), false))), true, fun A => .any⟩ :: ⟨_, true, [4], some (.box w0.heap.size 36 E_impl_Test (gtD (gtD p0 y11) y23)), false, fun A => .any⟩ :: []) (by kernel_rfl) (by kernel_rfl) (Wf.mk' (by kernel_rfl) (UAll.cons ust_qtr (UAll.cons ust_rep (UAll.cons ust_any (UAll.cons ust_any (UAll.nil))))) (by kernel_rfl) (by kernel_rfl)) hO hA ?_ ?_
            · exact
                OblsR.cons (OblR.plain rfl rfl rfl rfl fun A' R' w' ho hd => by have a0 : R' 20 = u19 := (ho.old 20 rfl).trans h20; have a1 : R' 22 = .int .i64 y23 := (ho.old 22 rfl).trans h22; have ra0 := (f_u19.stp ho.stp).eq a0; exact of_indexAddr ra0 a1 Tryd.underlying30 Tryd.sizeOf36 e26) <|
                OblsR.cons (OblR.plain rfl rfl rfl rfl fun A' R' w' ho hd => by have a0 : QRep E_impl_Test A' w' (R' 24) (gtD (gtD p0 y11) y23) := hd 0 _ _ _ rfl rfl rfl rfl rfl; exact (of_load a0.ptr Tryd.isAgg36 Tryd.sizeOf36)) <|
                OblsR.cons (OblR.made _ rfl rfl rfl rfl fun A' R' w' ho hd => by exact made_alloc Tryd.zeroValue36 (fun A w => rep_pr rep1_int (rep_pr rep1_int rep1_bool)) (Nat.le_trans hF.size ho.ch.size)) <|
                OblsR.cons (OblR.took 4 _ _ rfl rfl rfl rfl rfl fun A' R' w' ho hd u hok hav hin hop hds => by have a1 : Rep E_impl_Test A' w' (R' 25) (gtD (gtD p0 y11) y23) := hd 1 _ _ _ rfl rfl rfl rfl rfl; obtain ⟨b, hb, hB', hbx⟩ := hok; have hop' := hop _ _ rfl rfl rfl rfl; exact took_store a1 (hop'.symm.trans hb) hb ⟨b, hb, hB', hbx⟩ hav (FldS.id _) Tryd.sizeOf36 rfl) <|
                OblsR.nil
            intro done ρ σ A R w hdn hI
            replace h3 : R 3 = ul_u6 := (hI.reg rfl).trans h3
            replace h6 : R 6 = ul_u18 := (hI.reg rfl).trans h6
            replace h13 : R 13 = u7 := (hI.reg rfl).trans h13
            replace h14 : R 14 = .int .i64 (p0.length : Int) := (hI.reg rfl).trans h14
            replace h15 : R 15 = .int .i64 y11 := (hI.reg rfl).trans h15
            replace h20 : R 20 = u19 := (hI.reg rfl).trans h20
            replace h21 : R 21 = .int .i64 ((gtD p0 y11).length : Int) := (hI.reg rfl).trans h21
            replace h22 : R 22 = .int .i64 y23 := (hI.reg rfl).trans h22
            have z27 := hI.inivR 0 rfl
            have z28 := hI.inivR 1 rfl
            obtain ⟨b8_28, e_b8_28⟩ := hI.boxv hdn 5 rfl rfl
            have z30 := (hI.opnR hdn 5 3 rfl rfl rfl rfl rfl).symm.trans e_b8_28
            have h8 : R 8 = (.pointer (some ⟨b8_28, 0, none⟩)) := (hI.opvR hdn 4 2 rfl rfl rfl rfl rfl).symm.trans z30
            replace f_u19 := f_u19.stp hI.stp
            replace f_u7 := f_u7.stp hI.stp
            replace hAA := hI.low' hAA hA0 (hO.ge (⟨rfl, ⟨rfl, trivial⟩⟩))
            replace hF : Fr w0 w := hF.tr hI.ch (hO.ge (⟨rfl, ⟨rfl, trivial⟩⟩))
            replace hO : IniOK [ob ul_u18 (.vec w0.heap.size 9 eStr y24), ob ul_u6 (.vec w0.heap.size 9 eStr y12), ob (.pointer (some ⟨b8_28, 0, none⟩)) (.box w0.heap.size 36 E_impl_Test (gtD (gtD p0 y11) y23))] A w := hI.left hdn [(0, ob ul_u18 (.vec w0.heap.size 9 eStr y24)), (1, ob ul_u6 (.vec w0.heap.size 9 eStr y12)), (5, ob (.pointer (some ⟨b8_28, 0, none⟩)) (.box w0.heap.size 36 E_impl_Test (gtD (gtD p0 y11) y23)))] ⟨rfl, rfl, z27, rfl, rfl, ⟨rfl, rfl, z28, rfl, rfl, ⟨rfl, rfl, e_b8_28, rfl, rfl, trivial⟩⟩⟩
            replace hA := hI.avok
            clear hI
            obtain ⟨x31, q32, hr⟩ := cl_some hr
            obtain ⟨e33, hr⟩ := ck_some hr
            refine HT.textR [ob ul_u18 (.vec w0.heap.size 9 eStr y24), ob ul_u6 (.vec w0.heap.size 9 eStr y12), ob (.pointer (some ⟨b8_28, 0, none⟩)) (.box w0.heap.size 36 E_impl_Test (gtD (gtD p0 y11) y23))] (⟨_, true, [], none, true, fun A => .raw ul_u18⟩ :: ⟨_, true, [], none, true, fun A => .rep E_impl_Test A (gtD (gtD p0 y11) y23)⟩ :: ⟨_, true, [], none, true, fun A => .rep eStr A x31⟩ :: ⟨_, true, [], none, true, fun A => .rep (eSl eStr) A ([x31] : List (List UInt8))⟩ :: ⟨_, true, [0], some (.vec w0.heap.size 9 eStr (y24 ++ ([x31] : List (List UInt8)))), true, fun A => .any⟩ :: ⟨_, true, [7], some (.vec w0.heap.size 9 eStr (y24 ++ ([x31] : List (List UInt8)))), true, fun A => .any⟩ :: []) (by kernel_rfl) (by kernel_rfl) (Wf.mk' (by kernel_rfl) (UAll.cons ust_raw (UAll.cons ust_rep (UAll.cons ust_rep (UAll.cons ust_rep (UAll.cons ust_any (UAll.cons ust_any (UAll.nil))))))) (by kernel_rfl) (by kernel_rfl)) hO hA ?_ ?_
            · exact
                OblsR.cons (OblR.plain rfl rfl rfl rfl fun A' R' w' ho hd => by have a0 : R' 6 = ul_u18 := (ho.old 6 rfl).trans h6; exact of_move a0) <|
                OblsR.cons (OblR.plain rfl rfl rfl rfl fun A' R' w' ho hd => by have a0 : R' 8 = (.pointer (some ⟨b8_28, 0, none⟩)) := (ho.old 8 rfl).trans h8; exact (of_load_box (ho.rd 2 _ rfl rfl) a0 (Fld.id _) rfl Tryd.isAgg36 Tryd.sizeOf36)) <|
                OblsR.cons (OblR.plain rfl rfl rfl rfl fun A' R' w' ho hd => by have a0 : Rep E_impl_Test A' w' (R' 27) (gtD (gtD p0 y11) y23) := hd 0 _ _ _ rfl rfl rfl rfl rfl; exact of_call Tryd.call27 (M_impl_testText_ok (q32 rfl) ho.av (hG0.fr (hF.tr ho.ch (hO.ge (⟨rfl, ⟨rfl, ⟨rfl, trivial⟩⟩⟩)))) a0)) <|
                OblsR.cons (OblR.plain rfl rfl rfl rfl fun A' R' w' ho hd => by have a0 : Rep eStr A' w' (R' 28) x31 := hd 0 _ _ _ rfl rfl rfl rfl rfl; exact of_build [_] (E := eStr) ⟨a0, trivial⟩ Tryd.underlying33 Tryd.sizeOf9 Tryd.zeroValue9 rfl rfl rfl ho.av) <|
                OblsR.cons (OblR.took 0 _ _ rfl rfl rfl rfl rfl fun A' R' w' ho hd u hok hav hin hop hds => by have a0 : R' 26 = ul_u18 := hd 0 _ _ _ rfl rfl rfl rfl rfl; have a1 : Rep (eSl eStr) A' w' (R' 29) ([x31] : List (List UInt8)) := hd 1 _ _ _ rfl rfl rfl rfl rfl; exact took_append (a0.trans (hin _ rfl).symm) hok hav (Nat.le_trans hF.size ho.ch.size) a1 Tryd.underlying33 el_9 e33) <|
                OblsR.cons (OblR.took 7 _ _ rfl rfl rfl rfl rfl fun A' R' w' ho hd u hok hav hin hop hds => by exact took_assign (hop _ _ rfl rfl rfl rfl).symm hok hav) <|
                OblsR.nil
            intro done ρ σ A R w hdn hI
            replace h3 : R 3 = ul_u6 := (hI.reg rfl).trans h3
            replace h13 : R 13 = u7 := (hI.reg rfl).trans h13
            replace h14 : R 14 = .int .i64 (p0.length : Int) := (hI.reg rfl).trans h14
            replace h15 : R 15 = .int .i64 y11 := (hI.reg rfl).trans h15
            replace h20 : R 20 = u19 := (hI.reg rfl).trans h20
            replace h21 : R 21 = .int .i64 ((gtD p0 y11).length : Int) := (hI.reg rfl).trans h21
            replace h22 : R 22 = .int .i64 y23 := (hI.reg rfl).trans h22
            obtain ⟨u34, e_u34⟩ : ∃ u, ρ 8 = u := ⟨_, rfl⟩
            have h6 : R 6 = u34 := (hI.opvR hdn 8 5 rfl rfl rfl rfl rfl).symm.trans e_u34
            have z35 := hI.inivR 1 rfl
            have z36 := hI.inivR 2 rfl
            replace f_u19 := f_u19.stp hI.stp
            replace f_u7 := f_u7.stp hI.stp
            replace hAA := hI.low' hAA hA0 (hO.ge (⟨rfl, ⟨rfl, ⟨rfl, trivial⟩⟩⟩))
            replace hF : Fr w0 w := hF.tr hI.ch (hO.ge (⟨rfl, ⟨rfl, ⟨rfl, trivial⟩⟩⟩))
            replace hO : IniOK [ob u34 (.vec w0.heap.size 9 eStr (y24 ++ ([x31] : List (List UInt8)))), ob ul_u6 (.vec w0.heap.size 9 eStr y12)] A w := hI.left hdn [(8, ob u34 (.vec w0.heap.size 9 eStr (y24 ++ ([x31] : List (List UInt8))))), (1, ob ul_u6 (.vec w0.heap.size 9 eStr y12))] ⟨rfl, rfl, e_u34, rfl, rfl, ⟨rfl, rfl, z35, rfl, rfl, trivial⟩⟩
            replace hA := hI.avok
            clear hI
            obtain ⟨e37, hr⟩ := ck_some hr
            refine HT.text (l := ⟨_, true, .raw (.int .i64 (y23 + (1 : Int)))⟩ :: ⟨_, true, .raw (.int .i64 (y23 + (1 : Int)))⟩ :: []) (tl := []) (by kernel_rfl) (by kernel_rfl) (by kernel_rfl) ?_ ?_
            · exact
                Obls.cons (Obl.plain rfl rfl fun R' w' hw hs hd => by have a0 : R' 22 = .int .i64 y23 := (hs 22 rfl).trans h22; exact of_add a0 rfl e37) <|
                Obls.cons (Obl.plain rfl rfl fun R' w' hw hs hd => by have a0 : R' 31 = .int .i64 (y23 + (1 : Int)) := hd 0 _ _ _ rfl rfl rfl rfl rfl; exact of_move a0) <|
                Obls.nil
            intro R w hw hs hF'
            replace h3 : R 3 = ul_u6 := (hs 3 rfl).trans h3
            replace h6 : R 6 = u34 := (hs 6 rfl).trans h6
            replace h13 : R 13 = u7 := (hs 13 rfl).trans h13
            replace h14 : R 14 = .int .i64 (p0.length : Int) := (hs 14 rfl).trans h14
            replace h15 : R 15 = .int .i64 y11 := (hs 15 rfl).trans h15
            replace h20 : R 20 = u19 := (hs 20 rfl).trans h20
            replace h21 : R 21 = .int .i64 ((gtD p0 y11).length : Int) := (hs 21 rfl).trans h21
            have h22 : R 22 = .int .i64 (y23 + (1 : Int)) := hF' 1 _ _ rfl rfl rfl
            replace f_u19 := f_u19.fr hw
            replace f_u7 := f_u7.fr hw
            replace hO := hO.fr hw
            replace hA := hA.fr hw.size
            replace hF := hF.trans hw
            clear hs hF' hw
            refine seqR_nil ?_
            exact Exists.intro k (And.intro (Nat.lt_succ_self k) ⟨_, _, _, u34, hr, hA, hF, hAA, hO, h3, h6, h13, h14, h15, h20, h21, h22, f_u19, f_u7⟩)
          · have hr := cnd_f c25 hr
            refine HT.exit ?_
            obtain rfl := Option.some.inj hr
            exact Exists.intro _ ⟨_, ul_u18, rfl, hA, hF, hAA, hO, h3, h6, h13, h14, h15, f_u7⟩
        rintro R w ⟨A, s22, uo_u18, es, hA, hF, hAA, hO, h3, h6, h13, h14, h15, f_u7⟩
        obtain rfl := es.symm
        obtain ⟨x38, q39, hr⟩ := cl_some hr
        obtain ⟨e40, hr⟩ := ck_some hr
        refine HT.textR [ob uo_u18 (.vec w0.heap.size 9 eStr s22), ob ul_u6 (.vec w0.heap.size 9 eStr y12)] (⟨_, true, [], none, true, fun A => .raw ul_u6⟩ :: ⟨_, true, [], none, true, fun A => .raw uo_u18⟩ :: ⟨_, true, [], none, true, fun A => .rep eStr A x38⟩ :: ⟨_, true, [], none, true, fun A => .rep (eSl eStr) A ([x38] : List (List UInt8))⟩ :: ⟨_, true, [1], some (.vec w0.heap.size 9 eStr (y12 ++ ([x38] : List (List UInt8)))), true, fun A => .any⟩ :: ⟨_, true, [6], some (.vec w0.heap.size 9 eStr (y12 ++ ([x38] : List (List UInt8)))), true, fun A => .any⟩ :: []) (by kernel_rfl) (by kernel_rfl) (Wf.mk' (by kernel_rfl) (UAll.cons ust_raw (UAll.cons ust_raw (UAll.cons ust_rep (UAll.cons ust_rep (UAll.cons ust_any (UAll.cons ust_any (UAll.nil))))))) (by kernel_rfl) (by kernel_rfl)) hO hA ?_ ?_
        · exact
            OblsR.cons (OblR.plain rfl rfl rfl rfl fun A' R' w' ho hd => by have a0 : R' 3 = ul_u6 := (ho.old 3 rfl).trans h3; exact of_move a0) <|
            OblsR.cons (OblR.plain rfl rfl rfl rfl fun A' R' w' ho hd => by have a0 : R' 6 = uo_u18 := (ho.old 6 rfl).trans h6; exact of_move a0) <|
            OblsR.cons (OblR.plain rfl rfl rfl rfl fun A' R' w' ho hd => by have a0 : R' 33 = uo_u18 := hd 0 _ _ _ rfl rfl rfl rfl rfl; have ra0 := (vec_rep (ho.rd 0 _ rfl rfl) (ho.low' hAA hA0 (hO.ge (⟨rfl, ⟨rfl, trivial⟩⟩))) hA0).eq a0; exact of_call Tryd.call28 (calls_flat (fun _ _ _ _ _ h => h) (M_join_ok (q39 rfl) (hA00.fr ((Nat.le_trans hF.size ho.ch.size))) ra0 ⟨_, rfl, ⟨_, rfl, rfl, by decide⟩⟩))) <|
            OblsR.cons (OblR.plain rfl rfl rfl rfl fun A' R' w' ho hd => by have a0 : Rep eStr A' w' (R' 34) x38 := hd 0 _ _ _ rfl rfl rfl rfl rfl; exact of_build [_] (E := eStr) ⟨a0, trivial⟩ Tryd.underlying33 Tryd.sizeOf9 Tryd.zeroValue9 rfl rfl rfl ho.av) <|
            OblsR.cons (OblR.took 1 _ _ rfl rfl rfl rfl rfl fun A' R' w' ho hd u hok hav hin hop hds => by have a0 : R' 32 = ul_u6 := hd 0 _ _ _ rfl rfl rfl rfl rfl; have a1 : Rep (eSl eStr) A' w' (R' 35) ([x38] : List (List UInt8)) := hd 1 _ _ _ rfl rfl rfl rfl rfl; exact took_append (a0.trans (hin _ rfl).symm) hok hav (Nat.le_trans hF.size ho.ch.size) a1 Tryd.underlying33 el_9 e40) <|
            OblsR.cons (OblR.took 6 _ _ rfl rfl rfl rfl rfl fun A' R' w' ho hd u hok hav hin hop hds => by exact took_assign (hop _ _ rfl rfl rfl rfl).symm hok hav) <|
            OblsR.nil
        intro done ρ σ A R w hdn hI
        replace h13 : R 13 = u7 := (hI.reg rfl).trans h13
        replace h14 : R 14 = .int .i64 (p0.length : Int) := (hI.reg rfl).trans h14
        replace h15 : R 15 = .int .i64 y11 := (hI.reg rfl).trans h15
        have z41 := hI.inivR 0 rfl
        obtain ⟨u42, e_u42⟩ : ∃ u, ρ 7 = u := ⟨_, rfl⟩
        have h3 : R 3 = u42 := (hI.opvR hdn 7 5 rfl rfl rfl rfl rfl).symm.trans e_u42
        replace f_u7 := f_u7.stp hI.stp
        replace hAA := hI.low' hAA hA0 (hO.ge (⟨rfl, ⟨rfl, trivial⟩⟩))
        replace hF : Fr w0 w := hF.tr hI.ch (hO.ge (⟨rfl, ⟨rfl, trivial⟩⟩))
        replace hO : IniOK [ob u42 (.vec w0.heap.size 9 eStr (y12 ++ ([x38] : List (List UInt8))))] A w := hI.left hdn [(7, ob u42 (.vec w0.heap.size 9 eStr (y12 ++ ([x38] : List (List UInt8)))))] ⟨rfl, rfl, e_u42, rfl, rfl, trivial⟩
        replace hA := hI.avok
        clear hI
        obtain ⟨e43, hr⟩ := ck_some hr
        refine HT.text (l := ⟨_, true, .raw (.int .i64 (y11 + (1 : Int)))⟩ :: ⟨_, true, .raw (.int .i64 (y11 + (1 : Int)))⟩ :: []) (tl := []) (by kernel_rfl) (by kernel_rfl) (by kernel_rfl) ?_ ?_
        · exact
            Obls.cons (Obl.plain rfl rfl fun R' w' hw hs hd => by have a0 : R' 15 = .int .i64 y11 := (hs 15 rfl).trans h15; exact of_add a0 rfl e43) <|
            Obls.cons (Obl.plain rfl rfl fun R' w' hw hs hd => by have a0 : R' 37 = .int .i64 (y11 + (1 : Int)) := hd 0 _ _ _ rfl rfl rfl rfl rfl; exact of_move a0) <|
            Obls.nil
        intro R w hw hs hF'
        replace h3 : R 3 = u42 := (hs 3 rfl).trans h3
        replace h13 : R 13 = u7 := (hs 13 rfl).trans h13
        replace h14 : R 14 = .int .i64 (p0.length : Int) := (hs 14 rfl).trans h14
        have h15 : R 15 = .int .i64 (y11 + (1 : Int)) := hF' 1 _ _ rfl rfl rfl
        replace f_u7 := f_u7.fr hw
        replace hO := hO.fr hw
        replace hA := hA.fr hw.size
        replace hF := hF.trans hw
        clear hs hF' hw
        refine seqR_nil ?_
        exact Exists.intro k (And.intro (Nat.lt_succ_self k) ⟨_, _, _, u42, hr, hA, hF, hAA, hO, h3, h13, h14, h15, f_u7⟩)
      · have hr := cnd_f c13 hr
        refine HT.exit ?_
        obtain rfl := Option.some.inj hr
        exact Exists.intro _ ⟨_, ul_u6, rfl, hA, hF, hAA, hO, h3⟩
    rintro R w ⟨A, s10, uo_u6, es, hA, hF, hAA, hO, h3⟩
    obtain rfl := es.symm
    refine HT.seq ?_
    obtain ⟨x44, q45, hr⟩ := cl_some hr
    refine HT.text (l := ⟨_, true, .raw uo_u6⟩ :: ⟨_, true, .rep eStr A x44⟩ :: ⟨_, true, .rep eStr A x44⟩ :: []) (tl := []) (by kernel_rfl) (by kernel_rfl) (by kernel_rfl) ?_ ?_
    · exact
        Obls.cons (Obl.plain rfl rfl fun R' w' hw hs hd => by have a0 : R' 3 = uo_u6 := (hs 3 rfl).trans h3; exact of_move a0) <|
        Obls.cons (Obl.plain rfl rfl fun R' w' hw hs hd => by have a0 : R' 38 = uo_u6 := hd 0 _ _ _ rfl rfl rfl rfl rfl; have ra0 := (vec_rep ((hO.fr hw).ok 0 _ rfl).1 hAA hA0).eq a0; exact of_call Tryd.call28 (calls_flat (fun _ _ _ _ _ h => h) (M_join_ok (q45 rfl) (hA00.fr ((Nat.le_trans hF.size hw.size))) ra0 ⟨_, rfl, ⟨_, rfl, rfl, by decide⟩⟩))) <|
        Obls.cons (Obl.plain rfl rfl fun R' w' hw hs hd => by have a0 : Rep eStr A w' (R' 39) x44 := hd 0 _ _ _ rfl rfl rfl rfl rfl; exact of_assign a0) <|
        Obls.nil
    intro R w hw hs hF'
    obtain ⟨u46, h2, f_u46⟩ : ∃ u, R 2 = u ∧ Rep eStr A w u x44 := ⟨_, rfl, hF' 2 _ _ rfl rfl rfl⟩
    replace hO := hO.fr hw
    replace hO : IniOK [] A w := hO.sub [] trivial
    replace hA := hA.fr hw.size
    replace hF := hF.trans hw
    clear hs hF' hw
    refine seqR_nil ?_
    refine HT.ret ?_
    obtain rfl := Option.some.inj hr
    exact ⟨.inr rfl, [R 2], ⟨rfl, trivial⟩, (f_u46.eq h2).down hAA, hF⟩
def M_impl_ParseRules_L1 (fu : Nat) (x22 : List (List UInt8)) : Nat → Int → T_impl_RuleSet → T_impl_Rule → Option (Ex (T_impl_RuleSet × Bool) (T_impl_RuleSet × T_impl_Rule))
  | 0, _, _, _ => none
  | k + 1, y28, y29, y30 =>
    bif (decide (y28 < (x22.length : Int))) then (
      ck (inR y28 x22.length) <|
      cl true (M_impl_parseTest fu (gtD x22 y28)) fun x34 =>
      bif (!x34.2) then (
        some (Ex.ret (([] : List T_impl_Rule), false))
      ) else (
        ck (lenOK (y30.length + ([x34.1] : List T_impl_Test).length)) <|
        ck (i64B (y28 + (1 : Int))) <|
        M_impl_ParseRules_L1 fu x22 k (y28 + (1 : Int)) y29 (y30 ++ ([x34.1] : List T_impl_Test))
      )
    ) else (
      some (Ex.go (y29, y30))
    )
def M_impl_ParseRules_L0 (fu : Nat) (x6 : List (List UInt8)) : Nat → Int → T_impl_RuleSet → T_impl_RuleSet → Option (Ex (T_impl_RuleSet × Bool) (T_impl_RuleSet × T_impl_RuleSet))
  | 0, _, _, _ => none
  | k + 1, y12, y13, y14 =>
    bif (decide (y12 < (x6.length : Int))) then (
      ck (inR y12 x6.length) <|
      cl true (M_split fu (gtD x6 y12) ([44] : List UInt8)) fun x22 =>
      cl true (M_impl_ParseRules_L1 fu x22 fu (0 : Int) y13 ([] : List T_impl_Test)) fun rl25 =>
      exM rl25 (fun r => some (Ex.ret r)) fun s27 =>
      ck (lenOK (y14.length + 1)) <|
      ck (i64B (y12 + (1 : Int))) <|
      M_impl_ParseRules_L0 fu x6 k (y12 + (1 : Int)) s27.1 (y14 ++ [s27.2])
    ) else (
      some (Ex.go (y13, y14))
    )
def M_impl_ParseRules (fu : Nat) (p0 : List UInt8) : Option (T_impl_RuleSet × Bool) :=
  cl true (M_split fu p0 ([32, 111, 114, 32] : List UInt8)) fun x6 =>
  cl true (M_impl_ParseRules_L0 fu x6 fu (0 : Int) ([] : List T_impl_Rule) ([] : List T_impl_Rule)) fun rl9 =>
  exM rl9 (fun r => some r) fun s11 =>
  cl true (M_impl_FormatRules fu s11.2) fun x66 =>
  bif (!(x66 == p0)) then (
    some (([] : List T_impl_Rule), false)
  ) else (
    some (s11.2, true)
  )
set_option linter.unusedSimpArgs false in
set_option maxRecDepth 100000 in
set_option maxHeartbeats 4000000 in
theorem M_impl_ParseRules_ok {fu : Nat} {A0 : Av} {p0 : List UInt8} {r : T_impl_RuleSet × Bool} (hr : M_impl_ParseRules fu p0 = some r) {w : World} {v0 : Value} (hA : AvOK A0 w) (hG : GTab w) (h0 : Rep eStr A0 w v0 p0) :
    Calls Tryd.prog 5 #[v0] w fun e w' => ∃ v, e = .returned v ∧ (∃ (u0 : Value) (S0 : Nat → Prop) (A1 : Av), GPost A0 (fun _ => False) w [⟨u0, S0, trR (geB w.heap.size) (oBx (oSl 32 (oBx (oSl 36 (oRd E_impl_Test))))) r.1 []⟩] A1 w' ∧ (Fact.tup2 (.raw u0) (.raw (.bool r.2))).ok v w') := by
  unfold M_impl_ParseRules at hr
  obtain ⟨w0, hw0⟩ : ∃ w0, w0 = w := ⟨_, rfl⟩
  have hF : Fr w0 w := hw0 ▸ Fr.refl _
  have hA0 : ∀ b o, A0 b o → b < w0.heap.size := fun b o h => hw0 ▸ hA b o h
  have hA00 : AvOK A0 w0 := hA0
  rw [show GPost A0 (fun _ => False) w = GPost A0 (fun _ => False) w0 from by rw [hw0]]
  rw [show w.heap.size = w0.heap.size from by rw [hw0]]
  have hG0 : GTab w0 := hw0 ▸ hG
  clear hw0
  obtain ⟨A, hAe⟩ : ∃ A, A = A0 := ⟨_, rfl⟩
  have hAA : ∀ b o, A0 b o → A b o := fun b o h => hAe ▸ h
  replace hA : AvOK A w := hAe ▸ hA
  have hO : IniOK [] A w := IniOK.nil
  refine calls_of_HT2 [.cell 2 24, .tmp 3] Tryd.func5 Tryd.ntmps5 (by decide) rfl rfl (Nat.le_of_ble_eq_true rfl) ?_
  intro R hR
  have f_v0 : Rep eStr A w v0 p0 := hAe ▸ h0
  replace h0 : R 0 = v0 := hR 0 _ rfl
  clear hR hAe
  refine HT.seq ?_
  refine HT.textR [] (⟨_, true, [], some (trR (geB w0.heap.size) (oPt 24 (oBx (oSl 32 (oBx (oSl 36 (oRd E_impl_Test)))))) ([] : List T_impl_Rule) []), true, fun A => .any⟩ :: ⟨_, true, [], none, true, fun A => .raw (.bool false)⟩ :: []) (by kernel_rfl) (by kernel_rfl) (Wf.mk' (by kernel_rfl) (UAll.cons ust_any (UAll.cons ust_raw (UAll.nil))) (by kernel_rfl) (by kernel_rfl)) hO hA ?_ ?_
  · exact
      OblsR.cons (OblR.madeS _ rfl rfl rfl rfl fun A' R' w' ho hd => by exact made_allocT Tryd.zeroValue24 (fun A w => own_nil) (fun k hk => Nat.le_trans (Nat.le_trans hF.size ho.ch.size) hk)) <|
      OblsR.cons (OblR.plain rfl rfl rfl rfl fun A' R' w' ho hd => by exact of_assign rfl) <|
      OblsR.nil
  intro done ρ σ A R w hdn hI
  replace h0 : R 0 = v0 := (hI.reg rfl).trans h0
  obtain ⟨u1, e_u1⟩ : ∃ u, ρ 0 = u := ⟨_, rfl⟩
  have h2 : R 2 = u1 := (hI.opvR hdn 0 0 rfl rfl rfl rfl rfl).symm.trans e_u1
  obtain ⟨S2, eS_u1⟩ : ∃ S, σ 0 = S := ⟨_, rfl⟩
  replace f_v0 := f_v0.stp hI.stp
  replace hAA := hI.low' hAA hA0 (hO.ge (trivial))
  replace hF : Fr w0 w := hF.tr hI.ch (hO.ge (trivial))
  replace hO : IniOK [⟨u1, S2, trR (geB w0.heap.size) (oPt 24 (oBx (oSl 32 (oBx (oSl 36 (oRd E_impl_Test)))))) ([] : List T_impl_Rule) []⟩] A w := hI.left hdn [(0, ⟨u1, S2, trR (geB w0.heap.size) (oPt 24 (oBx (oSl 32 (oBx (oSl 36 (oRd E_impl_Test)))))) ([] : List T_impl_Rule) []⟩)] ⟨rfl, rfl, e_u1, eS_u1, rfl, trivial⟩
  replace hA := hI.avok
  clear hI
  refine HT.seq ?_
  refine HT.textR [⟨u1, S2, trR (geB w0.heap.size) (oPt 24 (oBx (oSl 32 (oBx (oSl 36 (oRd E_impl_Test)))))) ([] : List T_impl_Rule) []⟩] (⟨_, true, [], some (trR (geB w0.heap.size) (oPt 24 (oBx (oSl 32 (oBx (oSl 36 (oRd E_impl_Test)))))) ([] : List T_impl_Rule) []), true, fun A => .any⟩ :: []) (by kernel_rfl) (by kernel_rfl) (Wf.mk' (by kernel_rfl) (UAll.cons ust_any (UAll.nil)) (by kernel_rfl) (by kernel_rfl)) hO hA ?_ ?_
  · exact
      OblsR.cons (OblR.madeS _ rfl rfl rfl rfl fun A' R' w' ho hd => by exact made_allocT Tryd.zeroValue24 (fun A w => own_nil) (fun k hk => Nat.le_trans (Nat.le_trans hF.size ho.ch.size) hk)) <|
      OblsR.nil
  intro done ρ σ A R w hdn hI
  replace h0 : R 0 = v0 := (hI.reg rfl).trans h0
  replace h2 : R 2 = u1 := (hI.reg rfl).trans h2
  have z3 := hI.inivR 0 rfl
  obtain ⟨u4, e_u4⟩ : ∃ u, ρ 1 = u := ⟨_, rfl⟩
  have h4 : R 4 = u4 := (hI.opvR hdn 1 0 rfl rfl rfl rfl rfl).symm.trans e_u4
  have eS_u1 := hI.inisR 0 rfl
  obtain ⟨S5, eS_u4⟩ : ∃ S, σ 1 = S := ⟨_, rfl⟩
  replace f_v0 := f_v0.stp hI.stp
  replace hAA := hI.low' hAA hA0 (hO.ge (⟨fun _ h => h, trivial⟩))
  replace hF : Fr w0 w := hF.tr hI.ch (hO.ge (⟨fun _ h => h, trivial⟩))
  replace hO : IniOK [⟨u1, S2, trR (geB w0.heap.size) (oPt 24 (oBx (oSl 32 (oBx (oSl 36 (oRd E_impl_Test)))))) ([] : List T_impl_Rule) []⟩, ⟨u4, S5, trR (geB w0.heap.size) (oPt 24 (oBx (oSl 32 (oBx (oSl 36 (oRd E_impl_Test)))))) ([] : List T_impl_Rule) []⟩] A w := hI.left hdn [(0, ⟨u1, S2, trR (geB w0.heap.size) (oPt 24 (oBx (oSl 32 (oBx (oSl 36 (oRd E_impl_Test)))))) ([] : List T_impl_Rule) []⟩), (1, ⟨u4, S5, trR (geB w0.heap.size) (oPt 24 (oBx (oSl 32 (oBx (oSl 36 (oRd E_impl_Test)))))) ([] : List T_impl_Rule) []⟩)] ⟨rfl, rfl, z3, eS_u1, rfl, ⟨rfl, rfl, e_u4, eS_u4, rfl, trivial⟩⟩
  replace hA := hI.avok
  clear hI
  refine HT.seq ?_
  refine HT.seq ?_
  obtain ⟨x6, q7, hr⟩ := cl_some hr
  refine HT.text (l := ⟨_, true, .raw v0⟩ :: ⟨_, true, .rep (eSl eStr) A x6⟩ :: ⟨_, true, .raw (.int .i64 (x6.length : Int))⟩ :: ⟨_, true, .raw (.int .i64 (0 : Int))⟩ :: []) (tl := []) (by kernel_rfl) (by kernel_rfl) (by kernel_rfl) ?_ ?_
  · exact
      Obls.cons (Obl.plain rfl rfl fun R' w' hw hs hd => by have a0 : R' 0 = v0 := (hs 0 rfl).trans h0; exact of_move a0) <|
      Obls.cons (Obl.plain rfl rfl fun R' w' hw hs hd => by have a0 : R' 12 = v0 := hd 0 _ _ _ rfl rfl rfl rfl rfl; have ra0 := (f_v0.fr hw).eq a0; exact of_call Tryd.call12 (M_split_ok (q7 rfl) (hA.fr hw.size) (hG0.fr (hF.trans hw)) ra0 ⟨_, rfl, ⟨_, rfl, rfl, by decide⟩⟩)) <|
      Obls.cons (Obl.plain rfl rfl fun R' w' hw hs hd => by have a0 : Rep (eSl eStr) A w' (R' 13) x6 := hd 0 _ _ _ rfl rfl rfl rfl rfl; exact of_len_sl (aT := #[]) a0 Tryd.underlying33) <|
      Obls.cons (Obl.plain rfl rfl fun R' w' hw hs hd => by exact of_move rfl) <|
      Obls.nil
  intro R w hw hs hF'
  replace h0 : R 0 = v0 := (hs 0 rfl).trans h0
  replace h2 : R 2 = u1 := (hs 2 rfl).trans h2
  replace h4 : R 4 = u4 := (hs 4 rfl).trans h4
  obtain ⟨u8, h13, f_u8⟩ : ∃ u, R 13 = u ∧ Rep (eSl eStr) A w u x6 := ⟨_, rfl, hF' 1 _ _ rfl rfl rfl⟩
  have h14 : R 14 = .int .i64 (x6.length : Int) := hF' 2 _ _ rfl rfl rfl
  have h15 : R 15 = .int .i64 (0 : Int) := hF' 3 _ _ rfl rfl rfl
  replace f_v0 := f_v0.fr hw
  replace hO := hO.fr hw
  replace hA := hA.fr hw.size
  replace hF := hF.trans hw
  clear hs hF' hw
  refine seqR_nil ?_
  obtain ⟨rl9, q10, hr⟩ := cl_some hr
  replace q10 := q10 rfl
  refine HT.cut0 (fun R w => ∃ A : Av, ∃ (s11 : T_impl_RuleSet × T_impl_RuleSet) (So_u1 : Nat → Prop) (So_u4 : Nat → Prop), rl9 = Ex.go s11 ∧ AvOK A w ∧ Fr w0 w ∧ (∀ b o, A0 b o → A b o) ∧ IniOK [⟨u1, So_u1, trR (geB w0.heap.size) (oPt 24 (oBx (oSl 32 (oBx (oSl 36 (oRd E_impl_Test)))))) s11.1 []⟩, ⟨u4, So_u4, trR (geB w0.heap.size) (oPt 24 (oBx (oSl 32 (oBx (oSl 36 (oRd E_impl_Test)))))) s11.2 []⟩] A w ∧ R 0 = v0 ∧ R 2 = u1 ∧ R 4 = u4 ∧ Rep eStr A w v0 p0) ?_ ?_
  · refine HT.block ?_
    refine HT.loop (fun k R w => ∃ A : Av, ∃ (y12 : Int) (y13 : T_impl_RuleSet) (y14 : T_impl_RuleSet) (Sl_u1 : Nat → Prop) (Sl_u4 : Nat → Prop), M_impl_ParseRules_L0 fu x6 k y12 y13 y14 = some rl9 ∧ AvOK A w ∧ Fr w0 w ∧ (∀ b o, A0 b o → A b o) ∧ IniOK [⟨u1, Sl_u1, trR (geB w0.heap.size) (oPt 24 (oBx (oSl 32 (oBx (oSl 36 (oRd E_impl_Test)))))) y13 []⟩, ⟨u4, Sl_u4, trR (geB w0.heap.size) (oPt 24 (oBx (oSl 32 (oBx (oSl 36 (oRd E_impl_Test)))))) y14 []⟩] A w ∧ R 0 = v0 ∧ R 2 = u1 ∧ R 4 = u4 ∧ R 13 = u8 ∧ R 14 = .int .i64 (x6.length : Int) ∧ R 15 = .int .i64 y12 ∧ Rep (eSl eStr) A w u8 x6 ∧ Rep eStr A w v0 p0) fu ⟨_, _, _, _, S2, S5, q10, hA, hF, hAA, hO, h0, h2, h4, h13, h14, h15, f_u8, f_v0⟩ ?_
    have hr0 := hr; clear hr q10
    rintro k R w ⟨A, y12, y13, y14, Sl_u1, Sl_u4, hr, hA, hF, hAA, hO, h0, h2, h4, h13, h14, h15, f_u8, f_v0⟩
    rcases k with _ | k
    · cases (show none = some _ from hr)
    rw [M_impl_ParseRules_L0] at hr
    refine HT.seq ?_
    refine HT.text (l := ⟨_, true, .raw (.bool (decide (y12 < (x6.length : Int))))⟩ :: []) (tl := []) (by kernel_rfl) (by kernel_rfl) (by kernel_rfl) ?_ ?_
    · exact
        Obls.cons (Obl.plain rfl rfl fun R' w' hw hs hd => by have a0 : R' 15 = .int .i64 y12 := (hs 15 rfl).trans h15; have a1 : R' 14 = .int .i64 (x6.length : Int) := (hs 14 rfl).trans h14; exact of_lss a0 a1) <|
        Obls.nil
    intro R w hw hs hF'
    replace h0 : R 0 = v0 := (hs 0 rfl).trans h0
    replace h2 : R 2 = u1 := (hs 2 rfl).trans h2
    replace h4 : R 4 = u4 := (hs 4 rfl).trans h4
    replace h13 : R 13 = u8 := (hs 13 rfl).trans h13
    replace h14 : R 14 = .int .i64 (x6.length : Int) := (hs 14 rfl).trans h14
    replace h15 : R 15 = .int .i64 y12 := (hs 15 rfl).trans h15
    have h16 : R 16 = .bool (decide (y12 < (x6.length : Int))) := hF' 0 _ _ rfl rfl rfl
    replace f_u8 := f_u8.fr hw
    replace f_v0 := f_v0.fr hw
    replace hO := hO.fr hw
    replace hA := hA.fr hw.size
    replace hF := hF.trans hw
    clear hs hF' hw
    refine seqR_nil ?_
    refine HT.seq ?_
    refine HT.cond (decide (y12 < (x6.length : Int))) h16 (fun c15 => ?_) (fun c15 => ?_)
    · have hr := cnd_t c15 hr
      refine HT.skip ?_
      refine HT.seq ?_
      refine HT.block ?_
      refine HT.seq ?_
      obtain ⟨e16, hr⟩ := ck_some hr
      refine HT.text (l := ⟨_, true, .qtr eStr A (gtD x6 y12)⟩ :: ⟨_, true, .rep eStr A (gtD x6 y12)⟩ :: ⟨_, true, .rep eStr A (gtD x6 y12)⟩ :: []) (tl := []) (by kernel_rfl) (by kernel_rfl) (by kernel_rfl) ?_ ?_
      · exact
          Obls.cons (Obl.plain rfl rfl fun R' w' hw hs hd => by have a0 : R' 13 = u8 := (hs 13 rfl).trans h13; have a1 : R' 15 = .int .i64 y12 := (hs 15 rfl).trans h15; have ra0 := (f_u8.fr hw).eq a0; exact of_indexAddr ra0 a1 Tryd.underlying33 Tryd.sizeOf9 e16) <|
          Obls.cons (Obl.plain rfl rfl fun R' w' hw hs hd => by have a0 : QRep eStr A w' (R' 17) (gtD x6 y12) := hd 0 _ _ _ rfl rfl rfl rfl rfl; exact (of_load a0.ptr Tryd.isAgg9 Tryd.sizeOf9)) <|
          Obls.cons (Obl.plain rfl rfl fun R' w' hw hs hd => by have a0 : Rep eStr A w' (R' 18) (gtD x6 y12) := hd 0 _ _ _ rfl rfl rfl rfl rfl; exact of_assign a0) <|
          Obls.nil
      intro R w hw hs hF'
      replace h0 : R 0 = v0 := (hs 0 rfl).trans h0
      replace h2 : R 2 = u1 := (hs 2 rfl).trans h2
      replace h4 : R 4 = u4 := (hs 4 rfl).trans h4
      replace h13 : R 13 = u8 := (hs 13 rfl).trans h13
      replace h14 : R 14 = .int .i64 (x6.length : Int) := (hs 14 rfl).trans h14
      replace h15 : R 15 = .int .i64 y12 := (hs 15 rfl).trans h15
      obtain ⟨u17, h6, f_u17⟩ : ∃ u, R 6 = u ∧ Rep eStr A w u (gtD x6 y12) := ⟨_, rfl, hF' 2 _ _ rfl rfl rfl⟩
      replace f_u8 := f_u8.fr hw
      replace f_v0 := f_v0.fr hw
      replace hO := hO.fr hw
      replace hA := hA.fr hw.size
      replace hF := hF.trans hw
      clear hs hF' hw
      refine seqR_nil ?_
      refine HT.seq ?_
      refine HT.textR [⟨u1, Sl_u1, trR (geB w0.heap.size) (oPt 24 (oBx (oSl 32 (oBx (oSl 36 (oRd E_impl_Test)))))) y13 []⟩, ⟨u4, Sl_u4, trR (geB w0.heap.size) (oPt 24 (oBx (oSl 32 (oBx (oSl 36 (oRd E_impl_Test)))))) y14 []⟩] (⟨_, true, [], some (trR (geB w0.heap.size) (oPt 32 (oBx (oSl 36 (oRd E_impl_Test)))) ([] : List T_impl_Test) []), true, fun A => .any⟩ :: []) (by kernel_rfl) (by kernel_rfl) (Wf.mk' (by kernel_rfl) (UAll.cons ust_any (UAll.nil)) (by kernel_rfl) (by kernel_rfl)) hO hA ?_ ?_
      · exact
          OblsR.cons (OblR.madeS _ rfl rfl rfl rfl fun A' R' w' ho hd => by exact made_allocT Tryd.zeroValue32 (fun A w => own_nil) (fun k hk => Nat.le_trans (Nat.le_trans hF.size ho.ch.size) hk)) <|
          OblsR.nil
      intro done ρ σ A R w hdn hI
      replace h0 : R 0 = v0 := (hI.reg rfl).trans h0
      replace h2 : R 2 = u1 := (hI.reg rfl).trans h2
      replace h4 : R 4 = u4 := (hI.reg rfl).trans h4
      replace h6 : R 6 = u17 := (hI.reg rfl).trans h6
      replace h13 : R 13 = u8 := (hI.reg rfl).trans h13
      replace h14 : R 14 = .int .i64 (x6.length : Int) := (hI.reg rfl).trans h14
      replace h15 : R 15 = .int .i64 y12 := (hI.reg rfl).trans h15
      have z18 := hI.inivR 0 rfl
      have z19 := hI.inivR 1 rfl
      obtain ⟨u20, e_u20⟩ : ∃ u, ρ 2 = u := ⟨_, rfl⟩
      have h7 : R 7 = u20 := (hI.opvR hdn 2 0 rfl rfl rfl rfl rfl).symm.trans e_u20
      have eS_u1 := hI.inisR 0 rfl
      have eS_u4 := hI.inisR 1 rfl
      obtain ⟨S21, eS_u20⟩ : ∃ S, σ 2 = S := ⟨_, rfl⟩
      replace f_u17 := f_u17.stp hI.stp
      replace f_u8 := f_u8.stp hI.stp
      replace f_v0 := f_v0.stp hI.stp
      replace hAA := hI.low' hAA hA0 (hO.ge (⟨fun _ h => h, ⟨fun _ h => h, trivial⟩⟩))
      replace hF : Fr w0 w := hF.tr hI.ch (hO.ge (⟨fun _ h => h, ⟨fun _ h => h, trivial⟩⟩))
      replace hO : IniOK [⟨u1, Sl_u1, trR (geB w0.heap.size) (oPt 24 (oBx (oSl 32 (oBx (oSl 36 (oRd E_impl_Test)))))) y13 []⟩, ⟨u4, Sl_u4, trR (geB w0.heap.size) (oPt 24 (oBx (oSl 32 (oBx (oSl 36 (oRd E_impl_Test)))))) y14 []⟩, ⟨u20, S21, trR (geB w0.heap.size) (oPt 32 (oBx (oSl 36 (oRd E_impl_Test)))) ([] : List T_impl_Test) []⟩] A w := hI.left hdn [(0, ⟨u1, Sl_u1, trR (geB w0.heap.size) (oPt 24 (oBx (oSl 32 (oBx (oSl 36 (oRd E_impl_Test)))))) y13 []⟩), (1, ⟨u4, Sl_u4, trR (geB w0.heap.size) (oPt 24 (oBx (oSl 32 (oBx (oSl 36 (oRd E_impl_Test)))))) y14 []⟩), (2, ⟨u20, S21, trR (geB w0.heap.size) (oPt 32 (oBx (oSl 36 (oRd E_impl_Test)))) ([] : List T_impl_Test) []⟩)] ⟨rfl, rfl, z18, eS_u1, rfl, ⟨rfl, rfl, z19, eS_u4, rfl, ⟨rfl, rfl, e_u20, eS_u20, rfl, trivial⟩⟩⟩
      replace hA := hI.avok
      clear hI
      refine HT.seq ?_
      refine HT.seq ?_
      obtain ⟨x22, q23, hr⟩ := cl_some hr
      refine HT.text (l := ⟨_, true, .raw u17⟩ :: ⟨_, true, .rep (eSl eStr) A x22⟩ :: ⟨_, true, .raw (.int .i64 (x22.length : Int))⟩ :: ⟨_, true, .raw (.int .i64 (0 : Int))⟩ :: []) (tl := []) (by kernel_rfl) (by kernel_rfl) (by kernel_rfl) ?_ ?_
      · exact
          Obls.cons (Obl.plain rfl rfl fun R' w' hw hs hd => by have a0 : R' 6 = u17 := (hs 6 rfl).trans h6; exact of_move a0) <|
          Obls.cons (Obl.plain rfl rfl fun R' w' hw hs hd => by have a0 : R' 19 = u17 := hd 0 _ _ _ rfl rfl rfl rfl rfl; have ra0 := (f_u17.fr hw).eq a0; exact of_call Tryd.call12 (M_split_ok (q23 rfl) (hA.fr hw.size) (hG0.fr (hF.trans hw)) ra0 ⟨_, rfl, ⟨_, rfl, rfl, by decide⟩⟩)) <|
          Obls.cons (Obl.plain rfl rfl fun R' w' hw hs hd => by have a0 : Rep (eSl eStr) A w' (R' 20) x22 := hd 0 _ _ _ rfl rfl rfl rfl rfl; exact of_len_sl (aT := #[]) a0 Tryd.underlying33) <|
          Obls.cons (Obl.plain rfl rfl fun R' w' hw hs hd => by exact of_move rfl) <|
          Obls.nil
      intro R w hw hs hF'
      replace h0 : R 0 = v0 := (hs 0 rfl).trans h0
      replace h2 : R 2 = u1 := (hs 2 rfl).trans h2
      replace h4 : R 4 = u4 := (hs 4 rfl).trans h4
      replace h7 : R 7 = u20 := (hs 7 rfl).trans h7
      replace h13 : R 13 = u8 := (hs 13 rfl).trans h13
      replace h14 : R 14 = .int .i64 (x6.length : Int) := (hs 14 rfl).trans h14
      replace h15 : R 15 = .int .i64 y12 := (hs 15 rfl).trans h15
      obtain ⟨u24, h20, f_u24⟩ : ∃ u, R 20 = u ∧ Rep (eSl eStr) A w u x22 := ⟨_, rfl, hF' 1 _ _ rfl rfl rfl⟩
      have h21 : R 21 = .int .i64 (x22.length : Int) := hF' 2 _ _ rfl rfl rfl
      have h22 : R 22 = .int .i64 (0 : Int) := hF' 3 _ _ rfl rfl rfl
      replace f_u8 := f_u8.fr hw
      replace f_v0 := f_v0.fr hw
      replace hO := hO.fr hw
      replace hA := hA.fr hw.size
      replace hF := hF.trans hw
      clear hs hF' hw
      refine seqR_nil ?_
      obtain ⟨rl25, q26, hr⟩ := cl_some hr
      replace q26 := q26 rfl
      refine HT.cut0 (fun R w => ∃ A : Av, ∃ (s27 : T_impl_RuleSet × T_impl_Rule) (So_u1 : Nat → Prop) (So_u20 : Nat → Prop), rl25 = Ex.go s27 ∧ AvOK A w ∧ Fr w0 w ∧ (∀ b o, A0 b o → A b o) ∧ IniOK [⟨u1, So_u1, trR (geB w0.heap.size) (oPt 24 (oBx (oSl 32 (oBx (oSl 36 (oRd E_impl_Test)))))) s27.1 []⟩, ⟨u4, Sl_u4, trR (geB w0.heap.size) (oPt 24 (oBx (oSl 32 (oBx (oSl 36 (oRd E_impl_Test)))))) y14 []⟩, ⟨u20, So_u20, trR (geB w0.heap.size) (oPt 32 (oBx (oSl 36 (oRd E_impl_Test)))) s27.2 []⟩] A w ∧ R 0 = v0 ∧ R 2 = u1 ∧ R 4 = u4 ∧ R 7 = u20 ∧ R 13 = u8 ∧ R 14 = .int .i64 (x6.length : Int) ∧ R 15 = .int .i64 y12 ∧ Rep (eSl eStr) A w u8 x6 ∧ Rep eStr A w v0 p0) ?_ ?_
      · refine HT.block ?_
        refine HT.loop (fun k R w => ∃ A : Av, ∃ (y28 : Int) (y29 : T_impl_RuleSet) (y30 : T_impl_Rule) (Sl_u1 : Nat → Prop) (Sl_u20 : Nat → Prop), M_impl_ParseRules_L1 fu x22 k y28 y29 y30 = some rl25 ∧ AvOK A w ∧ Fr w0 w ∧ (∀ b o, A0 b o → A b o) ∧ IniOK [⟨u1, Sl_u1, trR (geB w0.heap.size) (oPt 24 (oBx (oSl 32 (oBx (oSl 36 (oRd E_impl_Test)))))) y29 []⟩, ⟨u4, Sl_u4, trR (geB w0.heap.size) (oPt 24 (oBx (oSl 32 (oBx (oSl 36 (oRd E_impl_Test)))))) y14 []⟩, ⟨u20, Sl_u20, trR (geB w0.heap.size) (oPt 32 (oBx (oSl 36 (oRd E_impl_Test)))) y30 []⟩] A w ∧ R 0 = v0 ∧ R 2 = u1 ∧ R 4 = u4 ∧ R 7 = u20 ∧ R 13 = u8 ∧ R 14 = .int .i64 (x6.length : Int) ∧ R 15 = .int .i64 y12 ∧ R 20 = u24 ∧ R 21 = .int .i64 (x22.length : Int) ∧ R 22 = .int .i64 y28 ∧ Rep (eSl eStr) A w u24 x22 ∧ Rep (eSl eStr) A w u8 x6 ∧ Rep eStr A w v0 p0) fu ⟨_, _, _, _, Sl_u1, S21, q26, hA, hF, hAA, hO, h0, h2, h4, h7, h13, h14, h15, h20, h21, h22, f_u24, f_u8, f_v0⟩ ?_
        have hr1 := hr; clear hr q26
        rintro k R w ⟨A, y28, y29, y30, Sl_u1, Sl_u20, hr, hA, hF, hAA, hO, h0, h2, h4, h7, h13, h14, h15, h20, h21, h22, f_u24, f_u8, f_v0⟩
        rcases k with _ | k
        · cases (show none = some _ from hr)
        rw [M_impl_ParseRules_L1] at hr
        refine HT.seq ?_
        refine HT.text (l := ⟨_, true, .raw (.bool (decide (y28 < (x22.length : Int))))⟩ :: []) (tl := []) (by kernel_rfl) (by kernel_rfl) (by kernel_rfl) ?_ ?_
        · exact
            Obls.cons (Obl.plain rfl rfl fun R' w' hw hs hd => by have a0 : R' 22 = .int .i64 y28 := (hs 22 rfl).trans h22; have a1 : R' 21 = .int .i64 (x22.length : Int) := (hs 21 rfl).trans h21; exact of_lss a0 a1) <|
            Obls.nil
        intro R w hw hs hF'
        replace h0 : R 0 = v0 := (hs 0 rfl).trans h0
        replace h2 : R 2 = u1 := (hs 2 rfl).trans h2
        replace h4 : R 4 = u4 := (hs 4 rfl).trans h4
        replace h7 : R 7 = u20 := (hs 7 rfl).trans h7
        replace h13 : R 13 = u8 := (hs 13 rfl).trans h13
        replace h14 : R 14 = .int .i64 (x6.length : Int) := (hs 14 rfl).trans h14
        replace h15 : R 15 = .int .i64 y12 := (hs 15 rfl).trans h15
        replace h20 : R 20 = u24 := (hs 20 rfl).trans h20
        replace h21 : R 21 = .int .i64 (x22.length : Int) := (hs 21 rfl).trans h21
        replace h22 : R 22 = .int .i64 y28 := (hs 22 rfl).trans h22
        have h23 : R 23 = .bool (decide (y28 < (x22.length : Int))) := hF' 0 _ _ rfl rfl rfl
        replace f_u24 := f_u24.fr hw
        replace f_u8 := f_u8.fr hw
        replace f_v0 := f_v0.fr hw
        replace hO := hO.fr hw
        replace hA := hA.fr hw.size
        replace hF := hF.trans hw
        clear hs hF' hw
        refine seqR_nil ?_
        refine HT.seq ?_
        refine HT.cond (decide (y28 < (x22.length : Int))) h23 (fun c31 => ?_) (fun c31 => ?_)
        · have hr := cnd_t c31 hr
          refine HT.skip ?_
          refine HT.seq ?_
          refine HT.block ?_
          refine HT.seq ?_
          obtain ⟨e32, hr⟩ := ck_some hr
          refine HT.text (l := ⟨_, true, .qtr eStr A (gtD x22 y28)⟩ :: ⟨_, true, .rep eStr A (gtD x22 y28)⟩ :: ⟨_, true, .rep eStr A (gtD x22 y28)⟩ :: []) (tl := []) (by kernel_rfl) (by kernel_rfl) (by kernel_rfl) ?_ ?_
          · exact
              Obls.cons (Obl.plain rfl rfl fun R' w' hw hs hd => by have a0 : R' 20 = u24 := (hs 20 rfl).trans h20; have a1 : R' 22 = .int .i64 y28 := (hs 22 rfl).trans h22; have ra0 := (f_u24.fr hw).eq a0; exact of_indexAddr ra0 a1 Tryd.underlying33 Tryd.sizeOf9 e32) <|
              Obls.cons (Obl.plain rfl rfl fun R' w' hw hs hd => by have a0 : QRep eStr A w' (R' 24) (gtD x22 y28) := hd 0 _ _ _ rfl rfl rfl rfl rfl; exact (of_load a0.ptr Tryd.isAgg9 Tryd.sizeOf9)) <|
              Obls.cons (Obl.plain rfl rfl fun R' w' hw hs hd => by have a0 : Rep eStr A w' (R' 25) (gtD x22 y28) := hd 0 _ _ _ rfl rfl rfl rfl rfl; exact of_assign a0) <|
              Obls.nil
          intro R w hw hs hF'
          replace h0 : R 0 = v0 := (hs 0 rfl).trans h0
          replace h2 : R 2 = u1 := (hs 2 rfl).trans h2
          replace h4 : R 4 = u4 := (hs 4 rfl).trans h4
          replace h7 : R 7 = u20 := (hs 7 rfl).trans h7
          replace h13 : R 13 = u8 := (hs 13 rfl).trans h13
          replace h14 : R 14 = .int .i64 (x6.length : Int) := (hs 14 rfl).trans h14
          replace h15 : R 15 = .int .i64 y12 := (hs 15 rfl).trans h15
          replace h20 : R 20 = u24 := (hs 20 rfl).trans h20
          replace h21 : R 21 = .int .i64 (x22.length : Int) := (hs 21 rfl).trans h21
          replace h22 : R 22 = .int .i64 y28 := (hs 22 rfl).trans h22
          obtain ⟨u33, h9, f_u33⟩ : ∃ u, R 9 = u ∧ Rep eStr A w u (gtD x22 y28) := ⟨_, rfl, hF' 2 _ _ rfl rfl rfl⟩
          replace f_u24 := f_u24.fr hw
          replace f_u8 := f_u8.fr hw
          replace f_v0 := f_v0.fr hw
          replace hO := hO.fr hw
          replace hA := hA.fr hw.size
          replace hF := hF.trans hw
          clear hs hF' hw
          refine seqR_nil ?_
          refine HT.seq ?_
          obtain ⟨x34, q35, hr⟩ := cl_some hr
          refine HT.textR [⟨u1, Sl_u1, trR (geB w0.heap.size) (oPt 24 (oBx (oSl 32 (oBx (oSl 36 (oRd E_impl_Test)))))) y29 []⟩, ⟨u4, Sl_u4, trR (geB w0.heap.size) (oPt 24 (oBx (oSl 32 (oBx (oSl 36 (oRd E_impl_Test)))))) y14 []⟩, ⟨u20, Sl_u20, trR (geB w0.heap.size) (oPt 32 (oBx (oSl 36 (oRd E_impl_Test)))) y30 []⟩] (⟨_, true, [], none, true, fun A => .raw u33⟩ :: ⟨_, true, [], none, true, fun A => .tup2 (.rep E_impl_Test A x34.1) (.raw (.bool x34.2))⟩ :: ⟨_, true, [], none, true, fun A => .tup2 (.rep E_impl_Test A x34.1) (.raw (.bool x34.2))⟩ :: ⟨_, true, [], none, true, fun A => .rep E_impl_Test A x34.1⟩ :: ⟨_, true, [], none, true, fun A => .raw (.bool x34.2)⟩ :: ⟨_, true, [], some (.box w0.heap.size 36 E_impl_Test ((0 : Int), ((0 : Int), false))), true, fun A => .any⟩ :: ⟨_, true, [8], some (.box w0.heap.size 36 E_impl_Test x34.1), false, fun A => .any⟩ :: ⟨_, true, [], none, true, fun A => .raw (.bool x34.2)⟩ :: []) (by kernel_rfl) (by kernel_rfl) (Wf.mk' (by kernel_rfl) (UAll.cons ust_raw (UAll.cons (ust_tup2 ust_rep ust_raw) (UAll.cons (ust_tup2 ust_rep ust_raw) (UAll.cons ust_rep (UAll.cons ust_raw (UAll.cons ust_any (UAll.cons ust_any (UAll.cons ust_raw (UAll.nil))))))))) (by kernel_rfl) (by kernel_rfl)) hO hA ?_ ?_
          · exact
              OblsR.cons (OblR.plain rfl rfl rfl rfl fun A' R' w' ho hd => by have a0 : R' 9 = u33 := (ho.old 9 rfl).trans h9; exact of_move a0) <|
              OblsR.cons (OblR.plain rfl rfl rfl rfl fun A' R' w' ho hd => by have a0 : R' 27 = u33 := hd 0 _ _ _ rfl rfl rfl rfl rfl; have ra0 := (f_u33.stp ho.stp).eq a0; exact of_call Tryd.call13 (M_impl_parseTest_ok (q35 rfl) ho.av (hG0.fr (hF.tr ho.ch (hO.ge (⟨fun _ h => h, ⟨fun _ h => h, ⟨fun _ h => h, trivial⟩⟩⟩)))) ra0)) <|
              OblsR.cons (OblR.plain rfl rfl rfl rfl fun A' R' w' ho hd => by have a0 : Fact.ok (.tup2 (.rep E_impl_Test A' x34.1) (.raw (.bool x34.2))) (R' 28) w' := hd 0 _ _ _ rfl rfl rfl rfl rfl; exact of_move a0) <|
              OblsR.cons (OblR.plain rfl rfl rfl rfl fun A' R' w' ho hd => by have a0 : Fact.ok (.tup2 (.rep E_impl_Test A' x34.1) (.raw (.bool x34.2))) (R' 26) w' := hd 0 _ _ _ rfl rfl rfl rfl rfl; exact of_extract2_0 a0) <|
              OblsR.cons (OblR.plain rfl rfl rfl rfl fun A' R' w' ho hd => by have a0 : Fact.ok (.tup2 (.rep E_impl_Test A' x34.1) (.raw (.bool x34.2))) (R' 26) w' := hd 0 _ _ _ rfl rfl rfl rfl rfl; exact of_extract2_1 a0) <|
              OblsR.cons (OblR.made _ rfl rfl rfl rfl fun A' R' w' ho hd => by exact made_alloc Tryd.zeroValue36 (fun A w => rep_pr rep1_int (rep_pr rep1_int rep1_bool)) (Nat.le_trans hF.size ho.ch.size)) <|
              OblsR.cons (OblR.took 8 _ _ rfl rfl rfl rfl rfl fun A' R' w' ho hd u hok hav hin hop hds => by have a1 : Rep E_impl_Test A' w' (R' 29) x34.1 := hd 1 _ _ _ rfl rfl rfl rfl rfl; obtain ⟨b, hb, hB', hbx⟩ := hok; have hop' := hop _ _ rfl rfl rfl rfl; exact took_store a1 (hop'.symm.trans hb) hb ⟨b, hb, hB', hbx⟩ hav (FldS.id _) Tryd.sizeOf36 rfl) <|
              OblsR.cons (OblR.plain rfl rfl rfl rfl fun A' R' w' ho hd => by have a0 : R' 30 = .bool x34.2 := hd 0 _ _ _ rfl rfl rfl rfl rfl; exact of_assign a0) <|
              OblsR.nil
          intro done ρ σ A R w hdn hI
          replace h0 : R 0 = v0 := (hI.reg rfl).trans h0
          replace h2 : R 2 = u1 := (hI.reg rfl).trans h2
          replace h4 : R 4 = u4 := (hI.reg rfl).trans h4
          replace h7 : R 7 = u20 := (hI.reg rfl).trans h7
          replace h13 : R 13 = u8 := (hI.reg rfl).trans h13
          replace h14 : R 14 = .int .i64 (x6.length : Int) := (hI.reg rfl).trans h14
          replace h15 : R 15 = .int .i64 y12 := (hI.reg rfl).trans h15
          replace h20 : R 20 = u24 := (hI.reg rfl).trans h20
          replace h21 : R 21 = .int .i64 (x22.length : Int) := (hI.reg rfl).trans h21
          replace h22 : R 22 = .int .i64 y28 := (hI.reg rfl).trans h22
          have z36 := hI.inivR 0 rfl
          have z37 := hI.inivR 1 rfl
          have z38 := hI.inivR 2 rfl
          obtain ⟨b10_38, e_b10_38⟩ := hI.boxv hdn 9 rfl rfl
          have z40 := (hI.opnR hdn 9 6 rfl rfl rfl rfl rfl).symm.trans e_b10_38
          have h10 : R 10 = (.pointer (some ⟨b10_38, 0, none⟩)) := (hI.opvR hdn 8 5 rfl rfl rfl rfl rfl).symm.trans z40
          have eS_u1 := hI.inisR 0 rfl
          have eS_u4 := hI.inisR 1 rfl
          have eS_u20 := hI.inisR 2 rfl
          have h11 : R 11 = .bool x34.2 := hI.fact hdn (i := 7) rfl rfl rfl
          replace f_u24 := f_u24.stp hI.stp
          replace f_u8 := f_u8.stp hI.stp
          replace f_v0 := f_v0.stp hI.stp
          replace hAA := hI.low' hAA hA0 (hO.ge (⟨fun _ h => h, ⟨fun _ h => h, ⟨fun _ h => h, trivial⟩⟩⟩))
          replace hF : Fr w0 w := hF.tr hI.ch (hO.ge (⟨fun _ h => h, ⟨fun _ h => h, ⟨fun _ h => h, trivial⟩⟩⟩))
          replace hO : IniOK [⟨u1, Sl_u1, trR (geB w0.heap.size) (oPt 24 (oBx (oSl 32 (oBx (oSl 36 (oRd E_impl_Test)))))) y29 []⟩, ⟨u4, Sl_u4, trR (geB w0.heap.size) (oPt 24 (oBx (oSl 32 (oBx (oSl 36 (oRd E_impl_Test)))))) y14 []⟩, ⟨u20, Sl_u20, trR (geB w0.heap.size) (oPt 32 (oBx (oSl 36 (oRd E_impl_Test)))) y30 []⟩, ob (.pointer (some ⟨b10_38, 0, none⟩)) (.box w0.heap.size 36 E_impl_Test x34.1)] A w := hI.left hdn [(0, ⟨u1, Sl_u1, trR (geB w0.heap.size) (oPt 24 (oBx (oSl 32 (oBx (oSl 36 (oRd E_impl_Test)))))) y29 []⟩), (1, ⟨u4, Sl_u4, trR (geB w0.heap.size) (oPt 24 (oBx (oSl 32 (oBx (oSl 36 (oRd E_impl_Test)))))) y14 []⟩), (2, ⟨u20, Sl_u20, trR (geB w0.heap.size) (oPt 32 (oBx (oSl 36 (oRd E_impl_Test)))) y30 []⟩), (9, ob (.pointer (some ⟨b10_38, 0, none⟩)) (.box w0.heap.size 36 E_impl_Test x34.1))] ⟨rfl, rfl, z36, eS_u1, rfl, ⟨rfl, rfl, z37, eS_u4, rfl, ⟨rfl, rfl, z38, eS_u20, rfl, ⟨rfl, rfl, e_b10_38, rfl, rfl, trivial⟩⟩⟩⟩
          replace hA := hI.avok
          clear hI
          refine HT.seq ?_
          refine HT.seq ?_
          refine HT.text (l := ⟨_, true, .raw (.bool x34.2)⟩ :: ⟨_, true, .raw (.bool (!x34.2))⟩ :: []) (tl := []) (by kernel_rfl) (by kernel_rfl) (by kernel_rfl) ?_ ?_
          · exact
              Obls.cons (Obl.plain rfl rfl fun R' w' hw hs hd => by have a0 : R' 11 = .bool x34.2 := (hs 11 rfl).trans h11; exact of_move a0) <|
              Obls.cons (Obl.plain rfl rfl fun R' w' hw hs hd => by have a0 : R' 31 = .bool x34.2 := hd 0 _ _ _ rfl rfl rfl rfl rfl; exact of_not a0) <|
              Obls.nil
          intro R w hw hs hF'
          replace h0 : R 0 = v0 := (hs 0 rfl).trans h0
          replace h2 : R 2 = u1 := (hs 2 rfl).trans h2
          replace h4 : R 4 = u4 := (hs 4 rfl).trans h4
          replace h7 : R 7 = u20 := (hs 7 rfl).trans h7
          replace h10 : R 10 = (.pointer (some ⟨b10_38, 0, none⟩)) := (hs 10 rfl).trans h10
          replace h13 : R 13 = u8 := (hs 13 rfl).trans h13
          replace h14 : R 14 = .int .i64 (x6.length : Int) := (hs 14 rfl).trans h14
          replace h15 : R 15 = .int .i64 y12 := (hs 15 rfl).trans h15
          replace h20 : R 20 = u24 := (hs 20 rfl).trans h20
          replace h21 : R 21 = .int .i64 (x22.length : Int) := (hs 21 rfl).trans h21
          replace h22 : R 22 = .int .i64 y28 := (hs 22 rfl).trans h22
          have h32 : R 32 = .bool (!x34.2) := hF' 1 _ _ rfl rfl rfl
          replace f_u24 := f_u24.fr hw
          replace f_u8 := f_u8.fr hw
          replace f_v0 := f_v0.fr hw
          replace hO := hO.fr hw
          replace hA := hA.fr hw.size
          replace hF := hF.trans hw
          clear hs hF' hw
          refine seqR_nil ?_
          refine HT.cond (!x34.2) h32 (fun c41 => ?_) (fun c41 => ?_)
          · have hr := cnd_t c41 hr
            refine HT.seq ?_
            refine HT.textR [⟨u1, Sl_u1, trR (geB w0.heap.size) (oPt 24 (oBx (oSl 32 (oBx (oSl 36 (oRd E_impl_Test)))))) y29 []⟩, ⟨u4, Sl_u4, trR (geB w0.heap.size) (oPt 24 (oBx (oSl 32 (oBx (oSl 36 (oRd E_impl_Test)))))) y14 []⟩, ⟨u20, Sl_u20, trR (geB w0.heap.size) (oPt 32 (oBx (oSl 36 (oRd E_impl_Test)))) y30 []⟩, ob (.pointer (some ⟨b10_38, 0, none⟩)) (.box w0.heap.size 36 E_impl_Test x34.1)] (⟨_, true, [], some (trR (geB w0.heap.size) (oBx (oSl 32 (oBx (oSl 36 (oRd E_impl_Test))))) ([] : List T_impl_Rule) []), true, fun A => .any⟩ :: ⟨_, true, [0, 4], some (trR (geB w0.heap.size) (oPt 24 (oBx (oSl 32 (oBx (oSl 36 (oRd E_impl_Test)))))) ([] : List T_impl_Rule) []), false, fun A => .any⟩ :: ⟨_, true, [], none, true, fun A => .raw (.bool false)⟩ :: []) (by kernel_rfl) (by kernel_rfl) (Wf.mk' (by kernel_rfl) (UAll.cons ust_any (UAll.cons ust_any (UAll.cons ust_raw (UAll.nil)))) (by kernel_rfl) (by kernel_rfl)) hO hA ?_ ?_
            · exact
                OblsR.cons (OblR.madeS _ rfl rfl rfl rfl fun A' R' w' ho hd => by exact made_valT (v := .agg #[.slice none 0 0]) (by simp [execOp, Instr.build, evalR, underlying, Tryd.underlying24, Tryd.zeroValue24, Tryd.sizeOf22, go_sem, Instr.fill]) ⟨⟨_, rfl, own_nil⟩, fun q hq => by cases hq⟩ (fun k hk => Nat.le_trans (Nat.le_trans hF.size ho.ch.size) hk)) <|
                OblsR.cons (OblR.tookM 0 [4] _ rfl rfl rfl rfl fun A' R' w' ho hd ρ σ hok hav hin hop hds hdd => by have a0 : R' 2 = u1 := (ho.old 2 rfl).trans h2; have k1 := hok 0 (.head _) _ rfl; have e0 := (hin 0 (.head _) _ rfl).1; rw [e0] at k1 ⊢; exact took_put2 rfl (tr_root k1.2.2).ptr (hok 4 (.tail _ (.head _)) _ rfl).2.2.1 (hop 4 (.tail _ (.head _)) _ _ rfl rfl rfl rfl).symm a0 hav hdd k1.2.1 (hok 4 (.tail _ (.head _)) _ rfl).2.1 Tryd.sizeOf24 (fun _ _ _ h => h)) <|
                OblsR.cons (OblR.plain rfl rfl rfl rfl fun A' R' w' ho hd => by exact of_assign rfl) <|
                OblsR.nil
            intro done ρ σ A R w hdn hI
            replace h2 : R 2 = u1 := (hI.reg rfl).trans h2
            have z42 := hI.inivR 0 rfl
            have z43 := (hI.opnR hdn 5 1 rfl rfl rfl rfl rfl).trans z42
            have z44 := hI.inivR 1 rfl
            have z45 := hI.inivR 2 rfl
            have z46 := hI.inivR 3 rfl
            obtain ⟨S47, eS_u1⟩ : ∃ S, σ 5 = S := ⟨_, rfl⟩
            have eS_u4 := hI.inisR 1 rfl
            have eS_u20 := hI.inisR 2 rfl
            have h3 : R 3 = .bool false := hI.fact hdn (i := 2) rfl rfl rfl
            replace hAA := hI.low' hAA hA0 (hO.ge (⟨fun _ h => h, ⟨fun _ h => h, ⟨fun _ h => h, ⟨rfl, trivial⟩⟩⟩⟩))
            replace hF : Fr w0 w := hF.tr hI.ch (hO.ge (⟨fun _ h => h, ⟨fun _ h => h, ⟨fun _ h => h, ⟨rfl, trivial⟩⟩⟩⟩))
            replace hO : IniOK [⟨u1, S47, trR (geB w0.heap.size) (oPt 24 (oBx (oSl 32 (oBx (oSl 36 (oRd E_impl_Test)))))) ([] : List T_impl_Rule) []⟩] A w := hI.left hdn [(5, ⟨u1, S47, trR (geB w0.heap.size) (oPt 24 (oBx (oSl 32 (oBx (oSl 36 (oRd E_impl_Test)))))) ([] : List T_impl_Rule) []⟩)] ⟨rfl, rfl, z43, eS_u1, rfl, trivial⟩
            replace hA := hI.avok
            clear hI
            refine HT.ret ?_
            obtain rfl := Option.some.inj hr
            have hr := hr1
            replace hr : some _ = some _ := hr
            obtain rfl := Option.some.inj hr
            have hr := hr0
            replace hr : some _ = some _ := hr
            obtain rfl := Option.some.inj hr
            obtain ⟨v_2, S_2, e_2, hO⟩ := hO.unbox 0 rfl h2 Tryd.isAgg24 Tryd.sizeOf24
            obtain ⟨A1, hA1, hG1⟩ := GPost.of hO hA hAA (fun k hk => .inl (hO.ge (⟨fun _ h => h, trivial⟩) k hk)) (hF.ch (fun _ => False))
            exact ⟨.inr rfl, [v_2, R 3], ⟨e_2, ⟨rfl, trivial⟩⟩, v_2, S_2, A1, hG1, ⟨_, _, rfl, rfl, h3⟩⟩
          · have hr := cnd_f c41 hr
            refine HT.skip ?_
            obtain ⟨h48, p_h48⟩ := (((tr_root (hO.own 2 _ rfl).2).ptr).bx).open1 rfl
            replace hO : IniOK [⟨u1, Sl_u1, trR (geB w0.heap.size) (oPt 24 (oBx (oSl 32 (oBx (oSl 36 (oRd E_impl_Test)))))) y29 []⟩, ⟨u4, Sl_u4, trR (geB w0.heap.size) (oPt 24 (oBx (oSl 32 (oBx (oSl 36 (oRd E_impl_Test)))))) y14 []⟩, ⟨u20, Sl_u20, trR (geB w0.heap.size) (oPt 32 (oBx (oSl 36 (oRd E_impl_Test)))) y30 [(u20, [h48])]⟩, ob (.pointer (some ⟨b10_38, 0, none⟩)) (.box w0.heap.size 36 E_impl_Test x34.1)] A w := hO.repin 2 rfl (trP.pin p_h48)
            obtain ⟨e50, hr⟩ := ck_some hr
            refine HT.textR [⟨u1, Sl_u1, trR (geB w0.heap.size) (oPt 24 (oBx (oSl 32 (oBx (oSl 36 (oRd E_impl_Test)))))) y29 []⟩, ⟨u4, Sl_u4, trR (geB w0.heap.size) (oPt 24 (oBx (oSl 32 (oBx (oSl 36 (oRd E_impl_Test)))))) y14 []⟩, ⟨u20, Sl_u20, trR (geB w0.heap.size) (oPt 32 (oBx (oSl 36 (oRd E_impl_Test)))) y30 [(u20, [h48])]⟩, ob (.pointer (some ⟨b10_38, 0, none⟩)) (.box w0.heap.size 36 E_impl_Test x34.1)] (⟨_, true, [], none, true, fun A => .raw u20⟩ :: ⟨_, true, [], none, true, fun A => .raw h48⟩ :: ⟨_, true, [], none, true, fun A => .rep E_impl_Test A x34.1⟩ :: ⟨_, true, [], none, true, fun A => .rep (eSl E_impl_Test) A ([x34.1] : List T_impl_Test)⟩ :: ⟨_, true, [2], some (.gen (geB w0.heap.size) (pdP (oSl 36 (oRd E_impl_Test)) u20 (fun z A w S => (trP (oPt 32 (oBx (oSl 36 (oRd E_impl_Test)))) z []).P A w S u20) (y30 ++ ([x34.1] : List T_impl_Test)))), true, fun A => .any⟩ :: ⟨_, true, [], none, true, fun A => .raw u20⟩ :: ⟨_, true, [8], some (.gen (geB w0.heap.size) (fixP u20 (trP (oPt 32 (oBx (oSl 36 (oRd E_impl_Test)))) (y30 ++ ([x34.1] : List T_impl_Test)) []))), false, fun A => .any⟩ :: []) (by kernel_rfl) (by kernel_rfl) (Wf.mk' (by kernel_rfl) (UAll.cons ust_raw (UAll.cons ust_raw (UAll.cons ust_rep (UAll.cons ust_rep (UAll.cons ust_any (UAll.cons ust_raw (UAll.cons ust_any (UAll.nil)))))))) (by kernel_rfl) (by kernel_rfl)) hO hA ?_ ?_
            · exact
                OblsR.cons (OblR.plain rfl rfl rfl rfl fun A' R' w' ho hd => by have a0 : R' 7 = u20 := (ho.old 7 rfl).trans h7; exact of_fieldAddr_tr ((tr_root (hO.own 2 _ rfl).2).ptr).ad a0 ff_32_0 Tryd.sizeOf30 (by decide) (padd_zero ((tr_root (hO.own 2 _ rfl).2).ptr).ad)) <|
                OblsR.cons (OblR.plain rfl rfl rfl rfl fun A' R' w' ho hd => by have a0 : R' 34 = u20 := hd 0 _ _ _ rfl rfl rfl rfl rfl; exact of_load_pin ((ho.rdo 2 _ rfl rfl).2.2 _ (.head _)) a0 Tryd.isAgg30 Tryd.sizeOf30) <|
                OblsR.cons (OblR.plain rfl rfl rfl rfl fun A' R' w' ho hd => by have a0 : R' 10 = (.pointer (some ⟨b10_38, 0, none⟩)) := (ho.old 10 rfl).trans h10; exact (of_load_box (ho.rd 3 _ rfl rfl) a0 (Fld.id _) rfl Tryd.isAgg36 Tryd.sizeOf36)) <|
                OblsR.cons (OblR.plain rfl rfl rfl rfl fun A' R' w' ho hd => by have a0 : Rep E_impl_Test A' w' (R' 36) x34.1 := hd 0 _ _ _ rfl rfl rfl rfl rfl; exact of_build [_] (E := E_impl_Test) ⟨a0, trivial⟩ Tryd.underlying30 Tryd.sizeOf36 Tryd.zeroValue36 rfl rfl rfl ho.av) <|
                OblsR.cons (OblR.tookS 2 _ _ rfl rfl rfl rfl rfl fun A' R' w' ho hd u S hok hown hav hin hop hds => by have a0 : R' 35 = h48 := hd 0 _ _ _ rfl rfl rfl rfl rfl; have a1 : Rep (eSl E_impl_Test) A' w' (R' 37) ([x34.1] : List T_impl_Test) := hd 1 _ _ _ rfl rfl rfl rfl rfl; have e0 := (hin _ rfl).1; rw [e0] at hown ⊢; exact took_appendP ((tr_root hown.2).ptr).bx (hown.2.2 _ (.head _)) a0 hav hown.1 (fun k hk => Nat.le_trans (Nat.le_trans hF.size ho.ch.size) hk) (fun k hk => SP.lt _ hown.2 hk) a1 Tryd.underlying30 el_36 e50) <|
                OblsR.cons (OblR.plain rfl rfl rfl rfl fun A' R' w' ho hd => by have a0 : R' 7 = u20 := (ho.old 7 rfl).trans h7; exact of_fieldAddr_tr ((tr_root (hO.own 2 _ rfl).2).ptr).ad a0 ff_32_0 Tryd.sizeOf30 (by decide) (padd_zero ((tr_root (hO.own 2 _ rfl).2).ptr).ad)) <|
                OblsR.cons (OblR.tookS 8 _ _ rfl rfl rfl rfl rfl fun A' R' w' ho hd u S hok hown hav hin hop hds => by have a0 : R' 39 = u20 := hd 0 _ _ _ rfl rfl rfl rfl rfl; exact took_putP hown.2 (hop _ _ rfl rfl rfl rfl).symm a0 hav hown.1 Tryd.sizeOf30 (fun _ _ _ h => h)) <|
                OblsR.nil
            intro done ρ σ A R w hdn hI
            replace h0 : R 0 = v0 := (hI.reg rfl).trans h0
            replace h2 : R 2 = u1 := (hI.reg rfl).trans h2
            replace h4 : R 4 = u4 := (hI.reg rfl).trans h4
            replace h7 : R 7 = u20 := (hI.reg rfl).trans h7
            replace h13 : R 13 = u8 := (hI.reg rfl).trans h13
            replace h14 : R 14 = .int .i64 (x6.length : Int) := (hI.reg rfl).trans h14
            replace h15 : R 15 = .int .i64 y12 := (hI.reg rfl).trans h15
            replace h20 : R 20 = u24 := (hI.reg rfl).trans h20
            replace h21 : R 21 = .int .i64 (x22.length : Int) := (hI.reg rfl).trans h21
            replace h22 : R 22 = .int .i64 y28 := (hI.reg rfl).trans h22
            have z51 := hI.inivR 0 rfl
            have z52 := hI.inivR 1 rfl
            obtain ⟨u53, e_u53⟩ : ∃ u, ρ 10 = u := ⟨_, rfl⟩
            have z54 := hI.inivR 3 rfl
            have eS_u1 := hI.inisR 0 rfl
            have eS_u4 := hI.inisR 1 rfl
            obtain ⟨S55, eS_u20⟩ : ∃ S, σ 10 = S := ⟨_, rfl⟩
            replace f_u24 := f_u24.stp hI.stp
            replace f_u8 := f_u8.stp hI.stp
            replace f_v0 := f_v0.stp hI.stp
            replace hAA := hI.low' hAA hA0 (hO.ge (⟨fun _ h => h, ⟨fun _ h => h, ⟨fun _ h => h, ⟨rfl, trivial⟩⟩⟩⟩))
            replace hF : Fr w0 w := hF.tr hI.ch (hO.ge (⟨fun _ h => h, ⟨fun _ h => h, ⟨fun _ h => h, ⟨rfl, trivial⟩⟩⟩⟩))
            replace hO : IniOK [⟨u1, Sl_u1, trR (geB w0.heap.size) (oPt 24 (oBx (oSl 32 (oBx (oSl 36 (oRd E_impl_Test)))))) y29 []⟩, ⟨u4, Sl_u4, trR (geB w0.heap.size) (oPt 24 (oBx (oSl 32 (oBx (oSl 36 (oRd E_impl_Test)))))) y14 []⟩, ⟨u53, S55, .gen (geB w0.heap.size) (fixP u20 (trP (oPt 32 (oBx (oSl 36 (oRd E_impl_Test)))) (y30 ++ ([x34.1] : List T_impl_Test)) []))⟩] A w := hI.left hdn [(0, ⟨u1, Sl_u1, trR (geB w0.heap.size) (oPt 24 (oBx (oSl 32 (oBx (oSl 36 (oRd E_impl_Test)))))) y29 []⟩), (1, ⟨u4, Sl_u4, trR (geB w0.heap.size) (oPt 24 (oBx (oSl 32 (oBx (oSl 36 (oRd E_impl_Test)))))) y14 []⟩), (10, ⟨u53, S55, .gen (geB w0.heap.size) (fixP u20 (trP (oPt 32 (oBx (oSl 36 (oRd E_impl_Test)))) (y30 ++ ([x34.1] : List T_impl_Test)) []))⟩)] ⟨rfl, rfl, z51, eS_u1, rfl, ⟨rfl, rfl, z52, eS_u4, rfl, ⟨rfl, rfl, e_u53, eS_u20, rfl, trivial⟩⟩⟩
            replace hA := hI.avok
            clear hI
            replace hO : IniOK [⟨u1, Sl_u1, trR (geB w0.heap.size) (oPt 24 (oBx (oSl 32 (oBx (oSl 36 (oRd E_impl_Test)))))) y29 []⟩, ⟨u4, Sl_u4, trR (geB w0.heap.size) (oPt 24 (oBx (oSl 32 (oBx (oSl 36 (oRd E_impl_Test)))))) y14 []⟩, ⟨u20, S55, trR (geB w0.heap.size) (oPt 32 (oBx (oSl 36 (oRd E_impl_Test)))) (y30 ++ ([x34.1] : List T_impl_Test)) []⟩] A w := hO.refix 2 rfl
            obtain ⟨e56, hr⟩ := ck_some hr
            refine HT.text (l := ⟨_, true, .raw (.int .i64 (y28 + (1 : Int)))⟩ :: ⟨_, true, .raw (.int .i64 (y28 + (1 : Int)))⟩ :: []) (tl := []) (by kernel_rfl) (by kernel_rfl) (by kernel_rfl) ?_ ?_
            · exact
                Obls.cons (Obl.plain rfl rfl fun R' w' hw hs hd => by have a0 : R' 22 = .int .i64 y28 := (hs 22 rfl).trans h22; exact of_add a0 rfl e56) <|
                Obls.cons (Obl.plain rfl rfl fun R' w' hw hs hd => by have a0 : R' 40 = .int .i64 (y28 + (1 : Int)) := hd 0 _ _ _ rfl rfl rfl rfl rfl; exact of_move a0) <|
                Obls.nil
            intro R w hw hs hF'
            replace h0 : R 0 = v0 := (hs 0 rfl).trans h0
            replace h2 : R 2 = u1 := (hs 2 rfl).trans h2
            replace h4 : R 4 = u4 := (hs 4 rfl).trans h4
            replace h7 : R 7 = u20 := (hs 7 rfl).trans h7
            replace h13 : R 13 = u8 := (hs 13 rfl).trans h13
            replace h14 : R 14 = .int .i64 (x6.length : Int) := (hs 14 rfl).trans h14
            replace h15 : R 15 = .int .i64 y12 := (hs 15 rfl).trans h15
            replace h20 : R 20 = u24 := (hs 20 rfl).trans h20
            replace h21 : R 21 = .int .i64 (x22.length : Int) := (hs 21 rfl).trans h21
            have h22 : R 22 = .int .i64 (y28 + (1 : Int)) := hF' 1 _ _ rfl rfl rfl
            replace f_u24 := f_u24.fr hw
            replace f_u8 := f_u8.fr hw
            replace f_v0 := f_v0.fr hw
            replace hO := hO.fr hw
            replace hA := hA.fr hw.size
            replace hF := hF.trans hw
            clear hs hF' hw
            refine seqR_nil ?_
            exact Exists.intro k (And.intro (Nat.lt_succ_self k) ⟨_, _, _, _, Sl_u1, S55, hr, hA, hF, hAA, hO, h0, h2, h4, h7, h13, h14, h15, h20, h21, h22, f_u24, f_u8, f_v0⟩)
        · have hr := cnd_f c31 hr
          refine HT.exit ?_
          obtain rfl := Option.some.inj hr
          exact Exists.intro _ ⟨_, Sl_u1, Sl_u20, rfl, hA, hF, hAA, hO, h0, h2, h4, h7, h13, h14, h15, f_u8, f_v0⟩
      rintro R w ⟨A, s27, So_u1, So_u20, rfl, hA, hF, hAA, hO, h0, h2, h4, h7, h13, h14, h15, f_u8, f_v0⟩
      have hr := exM_go hr
      obtain ⟨h57, p_h57⟩ := (((tr_root (hO.own 1 _ rfl).2).ptr).bx).open1 rfl
      replace hO : IniOK [⟨u1, So_u1, trR (geB w0.heap.size) (oPt 24 (oBx (oSl 32 (oBx (oSl 36 (oRd E_impl_Test)))))) s27.1 []⟩, ⟨u4, Sl_u4, trR (geB w0.heap.size) (oPt 24 (oBx (oSl 32 (oBx (oSl 36 (oRd E_impl_Test)))))) y14 [(u4, [h57])]⟩, ⟨u20, So_u20, trR (geB w0.heap.size) (oPt 32 (oBx (oSl 36 (oRd E_impl_Test)))) s27.2 []⟩] A w := hO.repin 1 rfl (trP.pin p_h57)
      obtain ⟨e59, hr⟩ := ck_some hr
      refine HT.textR [⟨u1, So_u1, trR (geB w0.heap.size) (oPt 24 (oBx (oSl 32 (oBx (oSl 36 (oRd E_impl_Test)))))) s27.1 []⟩, ⟨u4, Sl_u4, trR (geB w0.heap.size) (oPt 24 (oBx (oSl 32 (oBx (oSl 36 (oRd E_impl_Test)))))) y14 [(u4, [h57])]⟩, ⟨u20, So_u20, trR (geB w0.heap.size) (oPt 32 (oBx (oSl 36 (oRd E_impl_Test)))) s27.2 []⟩] (⟨_, true, [], none, true, fun A => .raw u4⟩ :: ⟨_, true, [], none, true, fun A => .raw h57⟩ :: ⟨_, true, [2], some (trR (geB w0.heap.size) (oBx (oSl 36 (oRd E_impl_Test))) s27.2 []), true, fun A => .any⟩ :: ⟨_, true, [5], some (trR (geB w0.heap.size) (oSl 32 (oBx (oSl 36 (oRd E_impl_Test)))) ([s27.2] : List T_impl_Rule) []), true, fun A => .any⟩ :: ⟨_, true, [1, 6], some (.gen (geB w0.heap.size) (pdP (oSl 32 (oBx (oSl 36 (oRd E_impl_Test)))) u4 (fun z A w S => (trP (oPt 24 (oBx (oSl 32 (oBx (oSl 36 (oRd E_impl_Test)))))) z []).P A w S u4) (y14 ++ [s27.2]))), true, fun A => .any⟩ :: ⟨_, true, [], none, true, fun A => .raw u4⟩ :: ⟨_, true, [7], some (.gen (geB w0.heap.size) (fixP u4 (trP (oPt 24 (oBx (oSl 32 (oBx (oSl 36 (oRd E_impl_Test)))))) (y14 ++ [s27.2]) []))), false, fun A => .any⟩ :: []) (by kernel_rfl) (by kernel_rfl) (Wf.mk' (by kernel_rfl) (UAll.cons ust_raw (UAll.cons ust_raw (UAll.cons ust_any (UAll.cons ust_any (UAll.cons ust_any (UAll.cons ust_raw (UAll.cons ust_any (UAll.nil)))))))) (by kernel_rfl) (by kernel_rfl)) hO hA ?_ ?_
      · exact
          OblsR.cons (OblR.plain rfl rfl rfl rfl fun A' R' w' ho hd => by have a0 : R' 4 = u4 := (ho.old 4 rfl).trans h4; exact of_fieldAddr_tr ((tr_root (hO.own 1 _ rfl).2).ptr).ad a0 ff_24_0 Tryd.sizeOf22 (by decide) (padd_zero ((tr_root (hO.own 1 _ rfl).2).ptr).ad)) <|
          OblsR.cons (OblR.plain rfl rfl rfl rfl fun A' R' w' ho hd => by have a0 : R' 41 = u4 := hd 0 _ _ _ rfl rfl rfl rfl rfl; exact of_load_pin ((ho.rdo 1 _ rfl rfl).2.2 _ (.head _)) a0 Tryd.isAgg22 Tryd.sizeOf22) <|
          OblsR.cons (OblR.tookS 2 _ _ rfl rfl rfl rfl rfl fun A' R' w' ho hd u S hok hown hav hin hop hds => by have a0 : R' 7 = u20 := (ho.old 7 rfl).trans h7; exact took_loadT hown.2 (a0.trans (hin _ rfl).1.symm) hav hown.1 Tryd.isAgg32 Tryd.sizeOf32) <|
          OblsR.cons (OblR.tookS 5 _ _ rfl rfl rfl rfl rfl fun A' R' w' ho hd u S hok hown hav hin hop hds => by exact took_buildT hown.2 (hop _ _ rfl rfl rfl rfl).symm hav hown.1 (fun k hk => Nat.le_trans (Nat.le_trans hF.size ho.ch.size) hk) Tryd.underlying22 Tryd.sizeOf32 Tryd.zeroValue32 (by decide)) <|
          OblsR.cons (OblR.tookM 1 [6] _ rfl rfl rfl rfl fun A' R' w' ho hd ρ σ hok hav hin hop hds hdd => by have a0 : R' 42 = h57 := hd 0 _ _ _ rfl rfl rfl rfl rfl; have k1 := hok 1 (.head _) _ rfl; have e0 := (hin 1 (.head _) _ rfl).1; rw [e0] at k1 ⊢; exact took_appendPT rfl ((tr_root k1.2.2).ptr).bx (k1.2.2.2 _ (.head _)) a0 (trP.nopin (hok 6 (.tail _ (.head _)) _ rfl).2.2) (hop 6 (.tail _ (.head _)) _ _ rfl rfl rfl rfl).symm hav hdd k1.2.1 (hok 6 (.tail _ (.head _)) _ rfl).2.1 (fun k hk => Nat.le_trans (Nat.le_trans hF.size ho.ch.size) hk) (fun k hk => SP.lt _ k1.2.2 hk) Tryd.underlying22 el_32 e59) <|
          OblsR.cons (OblR.plain rfl rfl rfl rfl fun A' R' w' ho hd => by have a0 : R' 4 = u4 := (ho.old 4 rfl).trans h4; exact of_fieldAddr_tr ((tr_root (hO.own 1 _ rfl).2).ptr).ad a0 ff_24_0 Tryd.sizeOf22 (by decide) (padd_zero ((tr_root (hO.own 1 _ rfl).2).ptr).ad)) <|
          OblsR.cons (OblR.tookS 7 _ _ rfl rfl rfl rfl rfl fun A' R' w' ho hd u S hok hown hav hin hop hds => by have a0 : R' 46 = u4 := hd 0 _ _ _ rfl rfl rfl rfl rfl; exact took_putP hown.2 (hop _ _ rfl rfl rfl rfl).symm a0 hav hown.1 Tryd.sizeOf22 (fun _ _ _ h => h)) <|
          OblsR.nil
      intro done ρ σ A R w hdn hI
      replace h0 : R 0 = v0 := (hI.reg rfl).trans h0
      replace h2 : R 2 = u1 := (hI.reg rfl).trans h2
      replace h4 : R 4 = u4 := (hI.reg rfl).trans h4
      replace h13 : R 13 = u8 := (hI.reg rfl).trans h13
      replace h14 : R 14 = .int .i64 (x6.length : Int) := (hI.reg rfl).trans h14
      replace h15 : R 15 = .int .i64 y12 := (hI.reg rfl).trans h15
      have z60 := hI.inivR 0 rfl
      obtain ⟨u61, e_u61⟩ : ∃ u, ρ 9 = u := ⟨_, rfl⟩
      have eS_u1 := hI.inisR 0 rfl
      obtain ⟨S62, eS_u4⟩ : ∃ S, σ 9 = S := ⟨_, rfl⟩
      replace f_u8 := f_u8.stp hI.stp
      replace f_v0 := f_v0.stp hI.stp
      replace hAA := hI.low' hAA hA0 (hO.ge (⟨fun _ h => h, ⟨fun _ h => h, ⟨fun _ h => h, trivial⟩⟩⟩))
      replace hF : Fr w0 w := hF.tr hI.ch (hO.ge (⟨fun _ h => h, ⟨fun _ h => h, ⟨fun _ h => h, trivial⟩⟩⟩))
      replace hO : IniOK [⟨u1, So_u1, trR (geB w0.heap.size) (oPt 24 (oBx (oSl 32 (oBx (oSl 36 (oRd E_impl_Test)))))) s27.1 []⟩, ⟨u61, S62, .gen (geB w0.heap.size) (fixP u4 (trP (oPt 24 (oBx (oSl 32 (oBx (oSl 36 (oRd E_impl_Test)))))) (y14 ++ [s27.2]) []))⟩] A w := hI.left hdn [(0, ⟨u1, So_u1, trR (geB w0.heap.size) (oPt 24 (oBx (oSl 32 (oBx (oSl 36 (oRd E_impl_Test)))))) s27.1 []⟩), (9, ⟨u61, S62, .gen (geB w0.heap.size) (fixP u4 (trP (oPt 24 (oBx (oSl 32 (oBx (oSl 36 (oRd E_impl_Test)))))) (y14 ++ [s27.2]) []))⟩)] ⟨rfl, rfl, z60, eS_u1, rfl, ⟨rfl, rfl, e_u61, eS_u4, rfl, trivial⟩⟩
      replace hA := hI.avok
      clear hI
      replace hO : IniOK [⟨u1, So_u1, trR (geB w0.heap.size) (oPt 24 (oBx (oSl 32 (oBx (oSl 36 (oRd E_impl_Test)))))) s27.1 []⟩, ⟨u4, S62, trR (geB w0.heap.size) (oPt 24 (oBx (oSl 32 (oBx (oSl 36 (oRd E_impl_Test)))))) (y14 ++ [s27.2]) []⟩] A w := hO.refix 1 rfl
      obtain ⟨e63, hr⟩ := ck_some hr
      refine HT.text (l := ⟨_, true, .raw (.int .i64 (y12 + (1 : Int)))⟩ :: ⟨_, true, .raw (.int .i64 (y12 + (1 : Int)))⟩ :: []) (tl := []) (by kernel_rfl) (by kernel_rfl) (by kernel_rfl) ?_ ?_
      · exact
          Obls.cons (Obl.plain rfl rfl fun R' w' hw hs hd => by have a0 : R' 15 = .int .i64 y12 := (hs 15 rfl).trans h15; exact of_add a0 rfl e63) <|
          Obls.cons (Obl.plain rfl rfl fun R' w' hw hs hd => by have a0 : R' 47 = .int .i64 (y12 + (1 : Int)) := hd 0 _ _ _ rfl rfl rfl rfl rfl; exact of_move a0) <|
          Obls.nil
      intro R w hw hs hF'
      replace h0 : R 0 = v0 := (hs 0 rfl).trans h0
      replace h2 : R 2 = u1 := (hs 2 rfl).trans h2
      replace h4 : R 4 = u4 := (hs 4 rfl).trans h4
      replace h13 : R 13 = u8 := (hs 13 rfl).trans h13
      replace h14 : R 14 = .int .i64 (x6.length : Int) := (hs 14 rfl).trans h14
      have h15 : R 15 = .int .i64 (y12 + (1 : Int)) := hF' 1 _ _ rfl rfl rfl
      replace f_u8 := f_u8.fr hw
      replace f_v0 := f_v0.fr hw
      replace hO := hO.fr hw
      replace hA := hA.fr hw.size
      replace hF := hF.trans hw
      clear hs hF' hw
      refine seqR_nil ?_
      exact Exists.intro k (And.intro (Nat.lt_succ_self k) ⟨_, _, _, _, So_u1, S62, hr, hA, hF, hAA, hO, h0, h2, h4, h13, h14, h15, f_u8, f_v0⟩)
    · have hr := cnd_f c15 hr
      refine HT.exit ?_
      obtain rfl := Option.some.inj hr
      exact Exists.intro _ ⟨_, Sl_u1, Sl_u4, rfl, hA, hF, hAA, hO, h0, h2, h4, f_v0⟩
  rintro R w ⟨A, s11, So_u1, So_u4, rfl, hA, hF, hAA, hO, h0, h2, h4, f_v0⟩
  have hr := exM_go hr
  refine HT.seq ?_
  refine HT.seq ?_
  obtain ⟨h64, l_h64, p_h64⟩ := ((tr_root (hO.own 1 _ rfl).2).ptr).open
  replace hO : IniOK [⟨u1, So_u1, trR (geB w0.heap.size) (oPt 24 (oBx (oSl 32 (oBx (oSl 36 (oRd E_impl_Test)))))) s11.1 []⟩, ⟨u4, So_u4, trR (geB w0.heap.size) (oPt 24 (oBx (oSl 32 (oBx (oSl 36 (oRd E_impl_Test)))))) s11.2 [(u4, h64)]⟩] A w := hO.repin 1 rfl (trP.pin p_h64)
  obtain ⟨x66, q67, hr⟩ := cl_some hr
  refine HT.text (l := ⟨_, true, .raw (Enc.val E_impl_RuleSet h64)⟩ :: ⟨_, true, .rep eStr A x66⟩ :: ⟨_, true, .raw v0⟩ :: ⟨_, true, .raw (.bool (!(x66 == p0)))⟩ :: []) (tl := []) (by kernel_rfl) (by kernel_rfl) (by kernel_rfl) ?_ ?_
  · exact
      Obls.cons (Obl.plain rfl rfl fun R' w' hw hs hd => by have a0 : R' 4 = u4 := (hs 4 rfl).trans h4; exact of_load_pinS (F := oBx (oSl 32 (oBx (oSl 36 (oRd E_impl_Test))))) (((hO.fr hw).own 1 _ rfl).2.2 _ (.head _)) l_h64 a0 Tryd.isAgg24 Tryd.sizeOf24) <|
      Obls.cons (Obl.plain rfl rfl fun R' w' hw hs hd => by have a0 : R' 48 = (Enc.val E_impl_RuleSet h64) := hd 0 _ _ _ rfl rfl rfl rfl rfl; have ra0 : Rep E_impl_RuleSet A0 w' (R' 48) _ := (vh_rep (((tr_root ((hO.fr hw).own 1 _ rfl).2).ptr).pinS (((hO.fr hw).own 1 _ rfl).2.2 _ (.head _)) l_h64) hAA (fun k o hk ha => Nat.not_lt.2 (((hO.fr hw).own 1 _ rfl).1 k hk) (hA0 k o ha))).eq a0; exact of_call Tryd.call14 (calls_flat (fun _ _ _ _ _ h => h) (M_impl_FormatRules_ok (q67 rfl) (hA00.fr ((Nat.le_trans hF.size hw.size))) (hG0.fr (hF.trans hw)) ra0))) <|
      Obls.cons (Obl.plain rfl rfl fun R' w' hw hs hd => by have a0 : R' 0 = v0 := (hs 0 rfl).trans h0; exact of_move a0) <|
      Obls.cons (Obl.plain rfl rfl fun R' w' hw hs hd => by have a0 : Rep eStr A w' (R' 49) x66 := hd 0 _ _ _ rfl rfl rfl rfl rfl; have a1 : R' 50 = v0 := hd 1 _ _ _ rfl rfl rfl rfl rfl; have ra1 := (f_v0.fr hw).eq a1; exact of_sneq a0 ra1) <|
      Obls.nil
  intro R w hw hs hF'
  replace h2 : R 2 = u1 := (hs 2 rfl).trans h2
  replace h4 : R 4 = u4 := (hs 4 rfl).trans h4
  have h51 : R 51 = .bool (!(x66 == p0)) := hF' 3 _ _ rfl rfl rfl
  replace hO := hO.fr hw
  replace hA := hA.fr hw.size
  replace hF := hF.trans hw
  clear hs hF' hw
  refine seqR_nil ?_
  replace hO : IniOK [⟨u1, So_u1, trR (geB w0.heap.size) (oPt 24 (oBx (oSl 32 (oBx (oSl 36 (oRd E_impl_Test)))))) s11.1 []⟩, ⟨u4, So_u4, trR (geB w0.heap.size) (oPt 24 (oBx (oSl 32 (oBx (oSl 36 (oRd E_impl_Test)))))) s11.2 []⟩] A w := hO.repin 1 rfl trP.nopin
  refine HT.cond (!(x66 == p0)) h51 (fun c68 => ?_) (fun c68 => ?_)
  · have hr := cnd_t c68 hr
    refine HT.seq ?_
    refine HT.textR [⟨u1, So_u1, trR (geB w0.heap.size) (oPt 24 (oBx (oSl 32 (oBx (oSl 36 (oRd E_impl_Test)))))) s11.1 []⟩, ⟨u4, So_u4, trR (geB w0.heap.size) (oPt 24 (oBx (oSl 32 (oBx (oSl 36 (oRd E_impl_Test)))))) s11.2 []⟩] (⟨_, true, [], some (trR (geB w0.heap.size) (oBx (oSl 32 (oBx (oSl 36 (oRd E_impl_Test))))) ([] : List T_impl_Rule) []), true, fun A => .any⟩ :: ⟨_, true, [0, 2], some (trR (geB w0.heap.size) (oPt 24 (oBx (oSl 32 (oBx (oSl 36 (oRd E_impl_Test)))))) ([] : List T_impl_Rule) []), false, fun A => .any⟩ :: ⟨_, true, [], none, true, fun A => .raw (.bool false)⟩ :: []) (by kernel_rfl) (by kernel_rfl) (Wf.mk' (by kernel_rfl) (UAll.cons ust_any (UAll.cons ust_any (UAll.cons ust_raw (UAll.nil)))) (by kernel_rfl) (by kernel_rfl)) hO hA ?_ ?_
    · exact
        OblsR.cons (OblR.madeS _ rfl rfl rfl rfl fun A' R' w' ho hd => by exact made_valT (v := .agg #[.slice none 0 0]) (by simp [execOp, Instr.build, evalR, underlying, Tryd.underlying24, Tryd.zeroValue24, Tryd.sizeOf22, go_sem, Instr.fill]) ⟨⟨_, rfl, own_nil⟩, fun q hq => by cases hq⟩ (fun k hk => Nat.le_trans (Nat.le_trans hF.size ho.ch.size) hk)) <|
        OblsR.cons (OblR.tookM 0 [2] _ rfl rfl rfl rfl fun A' R' w' ho hd ρ σ hok hav hin hop hds hdd => by have a0 : R' 2 = u1 := (ho.old 2 rfl).trans h2; have k1 := hok 0 (.head _) _ rfl; have e0 := (hin 0 (.head _) _ rfl).1; rw [e0] at k1 ⊢; exact took_put2 rfl (tr_root k1.2.2).ptr (hok 2 (.tail _ (.head _)) _ rfl).2.2.1 (hop 2 (.tail _ (.head _)) _ _ rfl rfl rfl rfl).symm a0 hav hdd k1.2.1 (hok 2 (.tail _ (.head _)) _ rfl).2.1 Tryd.sizeOf24 (fun _ _ _ h => h)) <|
        OblsR.cons (OblR.plain rfl rfl rfl rfl fun A' R' w' ho hd => by exact of_assign rfl) <|
        OblsR.nil
    intro done ρ σ A R w hdn hI
    replace h2 : R 2 = u1 := (hI.reg rfl).trans h2
    have z69 := hI.inivR 0 rfl
    have z70 := (hI.opnR hdn 3 1 rfl rfl rfl rfl rfl).trans z69
    have z71 := hI.inivR 1 rfl
    obtain ⟨S72, eS_u1⟩ : ∃ S, σ 3 = S := ⟨_, rfl⟩
    have eS_u4 := hI.inisR 1 rfl
    have h3 : R 3 = .bool false := hI.fact hdn (i := 2) rfl rfl rfl
    replace hAA := hI.low' hAA hA0 (hO.ge (⟨fun _ h => h, ⟨fun _ h => h, trivial⟩⟩))
    replace hF : Fr w0 w := hF.tr hI.ch (hO.ge (⟨fun _ h => h, ⟨fun _ h => h, trivial⟩⟩))
    replace hO : IniOK [⟨u1, S72, trR (geB w0.heap.size) (oPt 24 (oBx (oSl 32 (oBx (oSl 36 (oRd E_impl_Test)))))) ([] : List T_impl_Rule) []⟩] A w := hI.left hdn [(3, ⟨u1, S72, trR (geB w0.heap.size) (oPt 24 (oBx (oSl 32 (oBx (oSl 36 (oRd E_impl_Test)))))) ([] : List T_impl_Rule) []⟩)] ⟨rfl, rfl, z70, eS_u1, rfl, trivial⟩
    replace hA := hI.avok
    clear hI
    refine HT.ret ?_
    obtain rfl := Option.some.inj hr
    obtain ⟨v_2, S_2, e_2, hO⟩ := hO.unbox 0 rfl h2 Tryd.isAgg24 Tryd.sizeOf24
    obtain ⟨A1, hA1, hG1⟩ := GPost.of hO hA hAA (fun k hk => .inl (hO.ge (⟨fun _ h => h, trivial⟩) k hk)) (hF.ch (fun _ => False))
    exact ⟨.inr rfl, [v_2, R 3], ⟨e_2, ⟨rfl, trivial⟩⟩, v_2, S_2, A1, hG1, ⟨_, _, rfl, rfl, h3⟩⟩
  · have hr := cnd_f c68 hr
    refine HT.skip ?_
    refine HT.seq ?_
    refine HT.textR [⟨u1, So_u1, trR (geB w0.heap.size) (oPt 24 (oBx (oSl 32 (oBx (oSl 36 (oRd E_impl_Test)))))) s11.1 []⟩, ⟨u4, So_u4, trR (geB w0.heap.size) (oPt 24 (oBx (oSl 32 (oBx (oSl 36 (oRd E_impl_Test)))))) s11.2 []⟩] (⟨_, true, [1], some (trR (geB w0.heap.size) (oBx (oSl 32 (oBx (oSl 36 (oRd E_impl_Test))))) s11.2 []), true, fun A => .any⟩ :: ⟨_, true, [0, 2], some (trR (geB w0.heap.size) (oPt 24 (oBx (oSl 32 (oBx (oSl 36 (oRd E_impl_Test)))))) s11.2 []), false, fun A => .any⟩ :: ⟨_, true, [], none, true, fun A => .raw (.bool true)⟩ :: []) (by kernel_rfl) (by kernel_rfl) (Wf.mk' (by kernel_rfl) (UAll.cons ust_any (UAll.cons ust_any (UAll.cons ust_raw (UAll.nil)))) (by kernel_rfl) (by kernel_rfl)) hO hA ?_ ?_
    · exact
        OblsR.cons (OblR.tookS 1 _ _ rfl rfl rfl rfl rfl fun A' R' w' ho hd u S hok hown hav hin hop hds => by have a0 : R' 4 = u4 := (ho.old 4 rfl).trans h4; exact took_loadT hown.2 (a0.trans (hin _ rfl).1.symm) hav hown.1 Tryd.isAgg24 Tryd.sizeOf24) <|
        OblsR.cons (OblR.tookM 0 [2] _ rfl rfl rfl rfl fun A' R' w' ho hd ρ σ hok hav hin hop hds hdd => by have a0 : R' 2 = u1 := (ho.old 2 rfl).trans h2; have k1 := hok 0 (.head _) _ rfl; have e0 := (hin 0 (.head _) _ rfl).1; rw [e0] at k1 ⊢; exact took_put2 rfl (tr_root k1.2.2).ptr (hok 2 (.tail _ (.head _)) _ rfl).2.2.1 (hop 2 (.tail _ (.head _)) _ _ rfl rfl rfl rfl).symm a0 hav hdd k1.2.1 (hok 2 (.tail _ (.head _)) _ rfl).2.1 Tryd.sizeOf24 (fun _ _ _ h => h)) <|
        OblsR.cons (OblR.plain rfl rfl rfl rfl fun A' R' w' ho hd => by exact of_assign rfl) <|
        OblsR.nil
    intro done ρ σ A R w hdn hI
    replace h2 : R 2 = u1 := (hI.reg rfl).trans h2
    have z73 := hI.inivR 0 rfl
    have z74 := (hI.opnR hdn 3 1 rfl rfl rfl rfl rfl).trans z73
    obtain ⟨S75, eS_u1⟩ : ∃ S, σ 3 = S := ⟨_, rfl⟩
    have h3 : R 3 = .bool true := hI.fact hdn (i := 2) rfl rfl rfl
    replace hAA := hI.low' hAA hA0 (hO.ge (⟨fun _ h => h, ⟨fun _ h => h, trivial⟩⟩))
    replace hF : Fr w0 w := hF.tr hI.ch (hO.ge (⟨fun _ h => h, ⟨fun _ h => h, trivial⟩⟩))
    replace hO : IniOK [⟨u1, S75, trR (geB w0.heap.size) (oPt 24 (oBx (oSl 32 (oBx (oSl 36 (oRd E_impl_Test)))))) s11.2 []⟩] A w := hI.left hdn [(3, ⟨u1, S75, trR (geB w0.heap.size) (oPt 24 (oBx (oSl 32 (oBx (oSl 36 (oRd E_impl_Test)))))) s11.2 []⟩)] ⟨rfl, rfl, z74, eS_u1, rfl, trivial⟩
    replace hA := hI.avok
    clear hI
    refine HT.ret ?_
    obtain rfl := Option.some.inj hr
    obtain ⟨v_2, S_2, e_2, hO⟩ := hO.unbox 0 rfl h2 Tryd.isAgg24 Tryd.sizeOf24
    obtain ⟨A1, hA1, hG1⟩ := GPost.of hO hA hAA (fun k hk => .inl (hO.ge (⟨fun _ h => h, trivial⟩) k hk)) (hF.ch (fun _ => False))
    exact ⟨.inr rfl, [v_2, R 3], ⟨e_2, ⟨rfl, trivial⟩⟩, v_2, S_2, A1, hG1, ⟨_, _, rfl, rfl, h3⟩⟩
theorem M_impl_ParseRules_okR {fu : Nat} {A0 : Av} {p0 : List UInt8} {r : T_impl_RuleSet × Bool} (hr : M_impl_ParseRules fu p0 = some r) {w : World} {v0 : Value} (hA : AvOK A0 w) (hG : GTab w) (h0 : Rep eStr A0 w v0 p0) :
    Calls Tryd.prog 5 #[v0] w fun e w' => ∃ v, e = .returned v ∧ ((∃ a b, v = .tuple #[a, b] ∧ Rep E_impl_RuleSet A0 w' a r.1 ∧ b = .bool r.2) ∧ Fr w w') := by
  refine Calls.mono (M_impl_ParseRules_ok hr hA hG h0) ?_
  rintro e w' ⟨v, he, u0, S0, A1, hG, a0, a1, hv, e0, e1⟩
  exact ⟨v, he, ⟨a0, a1, hv, (tr_rep (hG.ini.own 0 _ rfl).2 hG.low (fun k o hk ha => Nat.not_lt.2 ((hG.ini.own 0 _ rfl).1 k hk) (hA k o ha))).eq e0, e1⟩, hG.ch.no⟩
end Go.Proofs.YtpneepiboheldaaDoor
