/- Printed by dec.py: plain functions and the proofs that the code computes them. No statement of the seat is proved here. -/
import Derived.Test.YtfcocbokgfmjfaaB4
namespace Go.Proofs.Ytfcocbokgfmjfaa
open Go.RowKit
set_option linter.unusedVariables false
def M_laws_heldIntS_L0 (fu : Nat) (p0 : List Int) : Nat → Int → Int → Option (Ex Int Int)
  | 0, _, _ => none
  | k + 1, y4, y5 =>
    bif (decide (y5 < (p0.length : Int))) then (
      ck (inR y5 p0.length) <|
      bif ((gtD p0 y5) != y4) then (
        some (Ex.ret (-1 : Int))
      ) else (
        ck (i64B (y4 + (1 : Int))) <|
        ck (i64B (y5 + (1 : Int))) <|
        M_laws_heldIntS_L0 fu p0 k (y4 + (1 : Int)) (y5 + (1 : Int))
      )
    ) else (
      some (Ex.go y4)
    )
def M_laws_heldIntS (fu : Nat) (p0 : List Int) (p1 : Int) : Option Int :=
  cl true (M_laws_heldIntS_L0 fu p0 fu p1 (0 : Int)) fun rl1 =>
  exM rl1 (fun r => some r) fun s3 =>
  some s3
set_option maxRecDepth 100000 in
set_option maxHeartbeats 4000000 in
theorem M_laws_heldIntS_ok {fu : Nat} {A : Av} {p0 : List Int} {p1 : Int} {r : Int} (hr : M_laws_heldIntS fu p0 p1 = some r) {w : World} {v0 : Value} {v1 : Value} (hA : AvOK A w) (h0 : Rep (eSl (eInt .i64)) A w v0 p0) (h1 : v1 = .int .i64 p1) :
    Calls Try.prog 50 #[v0, v1] w fun e w' => ∃ v, e = .returned v ∧ (v = .int .i64 r ∧ Fr w w') := by
  unfold M_laws_heldIntS at hr
  obtain ⟨w0, hw0⟩ : ∃ w0, w0 = w := ⟨_, rfl⟩
  have hF : Fr w0 w := hw0 ▸ Fr.refl _
  rw [show Fr w = Fr w0 from hw0 ▸ rfl]
  clear hw0
  refine calls_of_HT2 [.tmp 4] Try.func50 Try.ntmps50 (by decide) rfl rfl (Nat.le_of_ble_eq_true rfl) ?_
  intro R hR
  have f_v0 := h0
  replace h0 : R 0 = v0 := hR 0 _ rfl
  replace h1 : R 1 = .int .i64 p1 := (hR 1 _ rfl).trans h1
  clear hR
  refine HT.seq ?_
  refine HT.text (l := ⟨_, true, .raw (.int .i64 (0 : Int))⟩ :: []) (tl := []) (by kernel_rfl) (by kernel_rfl) (by kernel_rfl) ?_ ?_
  · exact
      Obls.cons (Obl.plain rfl rfl fun R' w' hw hs hd => by exact of_assign rfl) <|
      Obls.nil
  intro R w hw hs hF'
  replace h0 : R 0 = v0 := (hs 0 rfl).trans h0
  replace h1 : R 1 = .int .i64 p1 := (hs 1 rfl).trans h1
  replace f_v0 := f_v0.fr hw
  replace hA := hA.fr hw.size
  replace hF := hF.trans hw
  clear hs hF' hw
  refine seqR_nil ?_
  refine HT.seq ?_
  refine HT.seq ?_
  refine HT.text (l := ⟨_, true, .raw (.int .i64 (0 : Int))⟩ :: []) (tl := []) (by kernel_rfl) (by kernel_rfl) (by kernel_rfl) ?_ ?_
  · exact
      Obls.cons (Obl.plain rfl rfl fun R' w' hw hs hd => by exact of_assign rfl) <|
      Obls.nil
  intro R w hw hs hF'
  replace h0 : R 0 = v0 := (hs 0 rfl).trans h0
  replace h1 : R 1 = .int .i64 p1 := (hs 1 rfl).trans h1
  have h5 : R 5 = .int .i64 (0 : Int) := hF' 0 _ _ rfl rfl rfl
  replace f_v0 := f_v0.fr hw
  replace hA := hA.fr hw.size
  replace hF := hF.trans hw
  clear hs hF' hw
  refine seqR_nil ?_
  obtain ⟨rl1, q2, hr⟩ := cl_some hr
  replace q2 := q2 rfl
  refine HT.cut0 (fun R w => ∃ (s3 : Int), rl1 = Ex.go s3 ∧ AvOK A w ∧ Fr w0 w ∧ R 1 = .int .i64 s3) ?_ ?_
  · refine HT.block ?_
    refine HT.loop (fun k R w => ∃ (y4 : Int) (y5 : Int), M_laws_heldIntS_L0 fu p0 k y4 y5 = some rl1 ∧ AvOK A w ∧ Fr w0 w ∧ R 0 = v0 ∧ R 1 = .int .i64 y4 ∧ R 5 = .int .i64 y5 ∧ Rep (eSl (eInt .i64)) A w v0 p0) fu ⟨_, _, q2, hA, hF, h0, h1, h5, f_v0⟩ ?_
    have hr0 := hr; clear hr q2
    rintro k R w ⟨y4, y5, hr, hA, hF, h0, h1, h5, f_v0⟩
    rcases k with _ | k
    · cases (show none = some _ from hr)
    rw [M_laws_heldIntS_L0] at hr
    refine HT.seq ?_
    refine HT.seq ?_
    refine HT.text (l := ⟨_, true, .raw (.int .i64 y5)⟩ :: ⟨_, true, .raw v0⟩ :: ⟨_, true, .raw (.int .i64 (p0.length : Int))⟩ :: ⟨_, true, .raw (.bool (decide (y5 < (p0.length : Int))))⟩ :: []) (tl := []) (by kernel_rfl) (by kernel_rfl) (by kernel_rfl) ?_ ?_
    · exact
        Obls.cons (Obl.plain rfl rfl fun R' w' hw hs hd => by have a0 : R' 5 = .int .i64 y5 := (hs 5 rfl).trans h5; exact of_move a0) <|
        Obls.cons (Obl.plain rfl rfl fun R' w' hw hs hd => by have a0 : R' 0 = v0 := (hs 0 rfl).trans h0; exact of_move a0) <|
        Obls.cons (Obl.plain rfl rfl fun R' w' hw hs hd => by have a0 : R' 7 = v0 := hd 0 _ _ _ rfl rfl rfl rfl rfl; have ra0 := (f_v0.fr hw).eq a0; exact of_len_sl (aT := #[]) ra0 Try.underlying61) <|
        Obls.cons (Obl.plain rfl rfl fun R' w' hw hs hd => by have a0 : R' 6 = .int .i64 y5 := hd 0 _ _ _ rfl rfl rfl rfl rfl; have a1 : R' 8 = .int .i64 (p0.length : Int) := hd 1 _ _ _ rfl rfl rfl rfl rfl; exact of_lss a0 a1) <|
        Obls.nil
    intro R w hw hs hF'
    replace h0 : R 0 = v0 := (hs 0 rfl).trans h0
    replace h1 : R 1 = .int .i64 y4 := (hs 1 rfl).trans h1
    replace h5 : R 5 = .int .i64 y5 := (hs 5 rfl).trans h5
    have h9 : R 9 = .bool (decide (y5 < (p0.length : Int))) := hF' 3 _ _ rfl rfl rfl
    replace f_v0 := f_v0.fr hw
    replace hA := hA.fr hw.size
    replace hF := hF.trans hw
    clear hs hF' hw
    refine seqR_nil ?_
    refine HT.cond (decide (y5 < (p0.length : Int))) h9 (fun c6 => ?_) (fun c6 => ?_)
    · have hr := cnd_t c6 hr
      refine HT.skip ?_
      refine HT.seq ?_
      refine HT.block ?_
      refine HT.seq ?_
      refine HT.seq ?_
      obtain ⟨e7, hr⟩ := ck_some hr
      refine HT.text (l := ⟨_, true, .raw v0⟩ :: ⟨_, true, .raw (.int .i64 y5)⟩ :: ⟨_, true, .qtr (eInt .i64) A (gtD p0 y5)⟩ :: ⟨_, true, .raw (.int .i64 (gtD p0 y5))⟩ :: ⟨_, true, .raw (.int .i64 y4)⟩ :: ⟨_, true, .raw (.bool ((gtD p0 y5) != y4))⟩ :: []) (tl := []) (by kernel_rfl) (by kernel_rfl) (by kernel_rfl) ?_ ?_
      · exact
          Obls.cons (Obl.plain rfl rfl fun R' w' hw hs hd => by have a0 : R' 0 = v0 := (hs 0 rfl).trans h0; exact of_move a0) <|
          Obls.cons (Obl.plain rfl rfl fun R' w' hw hs hd => by have a0 : R' 5 = .int .i64 y5 := (hs 5 rfl).trans h5; exact of_move a0) <|
          Obls.cons (Obl.plain rfl rfl fun R' w' hw hs hd => by have a0 : R' 12 = v0 := hd 0 _ _ _ rfl rfl rfl rfl rfl; have a1 : R' 13 = .int .i64 y5 := hd 1 _ _ _ rfl rfl rfl rfl rfl; have ra0 := (f_v0.fr hw).eq a0; exact of_indexAddr ra0 a1 Try.underlying61 Try.sizeOf3 e7) <|
          Obls.cons (Obl.plain rfl rfl fun R' w' hw hs hd => by have a0 : QRep (eInt .i64) A w' (R' 14) (gtD p0 y5) := hd 0 _ _ _ rfl rfl rfl rfl rfl; exact OpF.int (of_load a0.ptr Try.isAgg3 Try.sizeOf3)) <|
          Obls.cons (Obl.plain rfl rfl fun R' w' hw hs hd => by have a0 : R' 1 = .int .i64 y4 := (hs 1 rfl).trans h1; exact of_move a0) <|
          Obls.cons (Obl.plain rfl rfl fun R' w' hw hs hd => by have a0 : R' 15 = .int .i64 (gtD p0 y5) := hd 0 _ _ _ rfl rfl rfl rfl rfl; have a1 : R' 16 = .int .i64 y4 := hd 1 _ _ _ rfl rfl rfl rfl rfl; exact of_neq a0 a1) <|
          Obls.nil
      intro R w hw hs hF'
      replace h0 : R 0 = v0 := (hs 0 rfl).trans h0
      replace h1 : R 1 = .int .i64 y4 := (hs 1 rfl).trans h1
      replace h5 : R 5 = .int .i64 y5 := (hs 5 rfl).trans h5
      have h17 : R 17 = .bool ((gtD p0 y5) != y4) := hF' 5 _ _ rfl rfl rfl
      replace f_v0 := f_v0.fr hw
      replace hA := hA.fr hw.size
      replace hF := hF.trans hw
      clear hs hF' hw
      refine seqR_nil ?_
      refine HT.cond ((gtD p0 y5) != y4) h17 (fun c8 => ?_) (fun c8 => ?_)
      · have hr := cnd_t c8 hr
        refine HT.seq ?_
        refine HT.text (l := ⟨_, true, .raw (.int .i64 (-1 : Int))⟩ :: []) (tl := []) (by kernel_rfl) (by kernel_rfl) (by kernel_rfl) ?_ ?_
        · exact
            Obls.cons (Obl.plain rfl rfl fun R' w' hw hs hd => by exact of_assign rfl) <|
            Obls.nil
        intro R w hw hs hF'
        have h4 : R 4 = .int .i64 (-1 : Int) := hF' 0 _ _ rfl rfl rfl
        replace hA := hA.fr hw.size
        replace hF := hF.trans hw
        clear hs hF' hw
        refine seqR_nil ?_
        refine HT.ret ?_
        obtain rfl := Option.some.inj hr
        have hr := hr0
        replace hr : some _ = some _ := hr
        obtain rfl := Option.some.inj hr
        exact ⟨.inr rfl, [R 4], ⟨rfl, trivial⟩, h4, hF⟩
      · have hr := cnd_f c8 hr
        refine HT.skip ?_
        obtain ⟨e9, hr⟩ := ck_some hr
        refine HT.text (l := ⟨_, true, .raw (.int .i64 y4)⟩ :: ⟨_, true, .raw (.int .i64 (y4 + (1 : Int)))⟩ :: ⟨_, true, .raw (.int .i64 (y4 + (1 : Int)))⟩ :: []) (tl := []) (by kernel_rfl) (by kernel_rfl) (by kernel_rfl) ?_ ?_
        · exact
            Obls.cons (Obl.plain rfl rfl fun R' w' hw hs hd => by have a0 : R' 1 = .int .i64 y4 := (hs 1 rfl).trans h1; exact of_move a0) <|
            Obls.cons (Obl.plain rfl rfl fun R' w' hw hs hd => by have a0 : R' 18 = .int .i64 y4 := hd 0 _ _ _ rfl rfl rfl rfl rfl; exact of_add a0 rfl e9) <|
            Obls.cons (Obl.plain rfl rfl fun R' w' hw hs hd => by have a0 : R' 19 = .int .i64 (y4 + (1 : Int)) := hd 0 _ _ _ rfl rfl rfl rfl rfl; exact of_assign a0) <|
            Obls.nil
        intro R w hw hs hF'
        replace h0 : R 0 = v0 := (hs 0 rfl).trans h0
        replace h5 : R 5 = .int .i64 y5 := (hs 5 rfl).trans h5
        have h1 : R 1 = .int .i64 (y4 + (1 : Int)) := hF' 2 _ _ rfl rfl rfl
        replace f_v0 := f_v0.fr hw
        replace hA := hA.fr hw.size
        replace hF := hF.trans hw
        clear hs hF' hw
        refine seqR_nil ?_
        obtain ⟨e10, hr⟩ := ck_some hr
        refine HT.text (l := ⟨_, true, .raw (.int .i64 y5)⟩ :: ⟨_, true, .raw (.int .i64 (y5 + (1 : Int)))⟩ :: ⟨_, true, .raw (.int .i64 (y5 + (1 : Int)))⟩ :: []) (tl := []) (by kernel_rfl) (by kernel_rfl) (by kernel_rfl) ?_ ?_
        · exact
            Obls.cons (Obl.plain rfl rfl fun R' w' hw hs hd => by have a0 : R' 5 = .int .i64 y5 := (hs 5 rfl).trans h5; exact of_move a0) <|
            Obls.cons (Obl.plain rfl rfl fun R' w' hw hs hd => by have a0 : R' 10 = .int .i64 y5 := hd 0 _ _ _ rfl rfl rfl rfl rfl; exact of_add a0 rfl e10) <|
            Obls.cons (Obl.plain rfl rfl fun R' w' hw hs hd => by have a0 : R' 11 = .int .i64 (y5 + (1 : Int)) := hd 0 _ _ _ rfl rfl rfl rfl rfl; exact of_assign a0) <|
            Obls.nil
        intro R w hw hs hF'
        replace h0 : R 0 = v0 := (hs 0 rfl).trans h0
        replace h1 : R 1 = .int .i64 (y4 + (1 : Int)) := (hs 1 rfl).trans h1
        have h5 : R 5 = .int .i64 (y5 + (1 : Int)) := hF' 2 _ _ rfl rfl rfl
        replace f_v0 := f_v0.fr hw
        replace hA := hA.fr hw.size
        replace hF := hF.trans hw
        clear hs hF' hw
        refine seqR_nil ?_
        exact Exists.intro k (And.intro (Nat.lt_succ_self k) ⟨_, _, hr, hA, hF, h0, h1, h5, f_v0⟩)
    · have hr := cnd_f c6 hr
      refine HT.exit ?_
      obtain rfl := Option.some.inj hr
      exact Exists.intro _ ⟨rfl, hA, hF, h1⟩
  rintro R w ⟨s3, rfl, hA, hF, h1⟩
  have hr := exM_go hr
  refine HT.seq ?_
  refine HT.text (l := ⟨_, true, .raw (.int .i64 s3)⟩ :: ⟨_, true, .raw (.int .i64 s3)⟩ :: []) (tl := []) (by kernel_rfl) (by kernel_rfl) (by kernel_rfl) ?_ ?_
  · exact
      Obls.cons (Obl.plain rfl rfl fun R' w' hw hs hd => by have a0 : R' 1 = .int .i64 s3 := (hs 1 rfl).trans h1; exact of_move a0) <|
      Obls.cons (Obl.plain rfl rfl fun R' w' hw hs hd => by have a0 : R' 20 = .int .i64 s3 := hd 0 _ _ _ rfl rfl rfl rfl rfl; exact of_assign a0) <|
      Obls.nil
  intro R w hw hs hF'
  have h4 : R 4 = .int .i64 s3 := hF' 1 _ _ rfl rfl rfl
  replace hA := hA.fr hw.size
  replace hF := hF.trans hw
  clear hs hF' hw
  refine seqR_nil ?_
  refine HT.ret ?_
  obtain rfl := Option.some.inj hr
  exact ⟨.inr rfl, [R 4], ⟨rfl, trivial⟩, h4, hF⟩
def M_laws_FnExactSearchSets (fu : Nat) (p0 : T_laws_SetIndex) (p1 : List (List UInt8)) : Option Bool :=
  cl true (M_laws_szSetIndex fu p0 (1048576 : Int)) fun x2 =>
  bif (decide (x2 < (0 : Int))) then (
    some true
  ) else (
    cl true (M_laws_szStringS fu p1 x2) fun x5 =>
    bif (decide (x5 < (0 : Int))) then (
      some true
    ) else (
      cl true (M_laws_toSetIndex fu p0) fun x8 =>
      cl true (M_laws_toStringS fu p1) fun x10 =>
      cl true (M_spec_SearchSets fu x8 x10) fun x12 =>
      cl true (M_laws_toSetIndex fu p0) fun x15 =>
      cl true (M_laws_toStringS fu p1) fun x21 =>
      cl true (M_impl_SearchSets fu x15 x21) fun x28 =>
      cl true (M_laws_eqIntS fu x28 x12) fun x34 =>
      bif (!x34) then (
        some false
      ) else (
        cl true (M_laws_toSetIndex fu p0) fun x39 =>
        cl true (M_laws_eqSetIndex fu x15 x39) fun x41 =>
        bif (!x41) then (
          some false
        ) else (
          cl true (M_laws_toStringS fu p1) fun x44 =>
          cl true (M_laws_eqStringS fu x21 x44) fun x46 =>
          bif (!x46) then (
            some false
          ) else (
            cl true (M_laws_markSetIndex fu x15 (1 : Int)) fun x51 =>
            cl true (M_laws_markStringS fu x21 x51.1) fun x59 =>
            cl (true && ((decide (x59.1 < (0 : Int))) == false)) (M_laws_eqIntS fu x28 x12) fun x65 =>
            bd ((decide (x59.1 < (0 : Int))) || (!x65)) fun x67 =>
            bif x67 then (
              some false
            ) else (
              cl true (M_laws_markIntS fu x28 (1 : Int)) fun x70 =>
              cl true (M_laws_heldIntS fu x70.2 (1 : Int)) fun x75 =>
              bif (decide (x75 < (0 : Int))) then (
                some false
              ) else (
                bif (x75 != x70.1) then (
                  some false
                ) else (
                  cl true (M_laws_toSetIndex fu p0) fun x79 =>
                  cl true (M_laws_toStringS fu p1) fun x81 =>
                  cl true (M_impl_SearchSets fu x79 x81) fun x83 =>
                  cl true (M_laws_eqIntS fu x83 x12) fun x86 =>
                  bif (!x86) then (
                    some false
                  ) else (
                    cl true (M_laws_heldIntS fu x70.2 (1 : Int)) fun x89 =>
                    bif (decide (x89 < (0 : Int))) then (
                      some false
                    ) else (
                      bif (x89 != x70.1) then (
                        some false
                      ) else (
                        some true
                      )
                    )
                  )
                )
              )
            )
          )
        )
      )
    )
  )
set_option maxRecDepth 100000 in
set_option maxHeartbeats 4000000 in
theorem M_laws_FnExactSearchSets_ok {fu : Nat} {A0 : Av} {p0 : T_laws_SetIndex} {p1 : List (List UInt8)} {r : Bool} (hr : M_laws_FnExactSearchSets fu p0 p1 = some r) {w : World} {v0 : Value} {v1 : Value} (hA : AvOK A0 w) (h0 : Rep E_laws_SetIndex A0 w v0 p0) (h1 : Rep (eSl eStr) A0 w v1 p1) :
    Calls Try.prog 10 #[v0, v1] w fun e w' => ∃ v, e = .returned v ∧ (v = .bool r ∧ Fr w w') := by
  unfold M_laws_FnExactSearchSets at hr
  obtain ⟨w0, hw0⟩ : ∃ w0, w0 = w := ⟨_, rfl⟩
  have hF : Fr w0 w := hw0 ▸ Fr.refl _
  have hA0 : ∀ b o, A0 b o → b < w0.heap.size := fun b o h => hw0 ▸ hA b o h
  have hA00 : AvOK A0 w0 := hA0
  rw [show Fr w = Fr w0 from hw0 ▸ rfl]
  clear hw0
  obtain ⟨A, hAe⟩ : ∃ A, A = A0 := ⟨_, rfl⟩
  have hAA : ∀ b o, A0 b o → A b o := fun b o h => hAe ▸ h
  replace hA : AvOK A w := hAe ▸ hA
  have hO : IniOK [] A w := IniOK.nil
  refine calls_of_HT2 [.tmp 4] Try.func10 Try.ntmps10 (by decide) rfl rfl (Nat.le_of_ble_eq_true rfl) ?_
  intro R hR
  have f_v0 : Rep E_laws_SetIndex A w v0 p0 := hAe ▸ h0
  replace h0 : R 0 = v0 := hR 0 _ rfl
  have f_v1 : Rep (eSl eStr) A w v1 p1 := hAe ▸ h1
  replace h1 : R 1 = v1 := hR 1 _ rfl
  clear hR hAe
  refine HT.seq ?_
  refine HT.textR [] (⟨_, true, [], some (.box w0.heap.size 44 E_laws_SetIndex p0), true, fun A => .any⟩ :: ⟨_, true, [], none, true, fun A => .raw (.bool false)⟩ :: []) (by kernel_rfl) (by kernel_rfl) (Wf.mk' (by kernel_rfl) (UAll.cons ust_any (UAll.cons ust_raw (UAll.nil))) (by kernel_rfl) (by kernel_rfl)) hO hA ?_ ?_
  · exact
      OblsR.cons (OblR.made _ rfl rfl rfl rfl fun A' R' w' ho hd => by have a0 : R' 0 = v0 := (ho.old 0 rfl).trans h0; have ra0 := (f_v0.stp ho.stp).eq a0; exact made_box ra0 (Nat.le_trans hF.size ho.ch.size)) <|
      OblsR.cons (OblR.plain rfl rfl rfl rfl fun A' R' w' ho hd => by exact of_assign rfl) <|
      OblsR.nil
  intro done ρ σ A R w hdn hI
  replace h1 : R 1 = v1 := (hI.reg rfl).trans h1
  obtain ⟨b2_0, e_b2_0⟩ := hI.boxv hdn 0 rfl rfl
  have h2 : R 2 = (.pointer (some ⟨b2_0, 0, none⟩)) := (hI.opvR hdn 0 0 rfl rfl rfl rfl rfl).symm.trans e_b2_0
  replace f_v1 := f_v1.stp hI.stp
  replace hAA := hI.low' hAA hA0 (hO.ge (trivial))
  replace hF : Fr w0 w := hF.tr hI.ch (hO.ge (trivial))
  replace hO : IniOK [ob (.pointer (some ⟨b2_0, 0, none⟩)) (.box w0.heap.size 44 E_laws_SetIndex p0)] A w := hI.left hdn [(0, ob (.pointer (some ⟨b2_0, 0, none⟩)) (.box w0.heap.size 44 E_laws_SetIndex p0))] ⟨rfl, rfl, e_b2_0, rfl, rfl, trivial⟩
  replace hA := hI.avok
  clear hI
  refine HT.seq ?_
  refine HT.text (l := ⟨_, true, .raw (.int .i64 (1048576 : Int))⟩ :: []) (tl := []) (by kernel_rfl) (by kernel_rfl) (by kernel_rfl) ?_ ?_
  · exact
      Obls.cons (Obl.plain rfl rfl fun R' w' hw hs hd => by exact of_assign rfl) <|
      Obls.nil
  intro R w hw hs hF'
  replace h1 : R 1 = v1 := (hs 1 rfl).trans h1
  replace h2 : R 2 = (.pointer (some ⟨b2_0, 0, none⟩)) := (hs 2 rfl).trans h2
  have h5 : R 5 = .int .i64 (1048576 : Int) := hF' 0 _ _ rfl rfl rfl
  replace f_v1 := f_v1.fr hw
  replace hO := hO.fr hw
  replace hA := hA.fr hw.size
  replace hF := hF.trans hw
  clear hs hF' hw
  refine seqR_nil ?_
  refine HT.seq ?_
  obtain ⟨x2, q3, hr⟩ := cl_some hr
  refine HT.text (l := ⟨_, true, .rep E_laws_SetIndex A p0⟩ :: ⟨_, true, .raw (.int .i64 (1048576 : Int))⟩ :: ⟨_, true, .raw (.int .i64 x2)⟩ :: ⟨_, true, .raw (.int .i64 x2)⟩ :: []) (tl := []) (by kernel_rfl) (by kernel_rfl) (by kernel_rfl) ?_ ?_
  · exact
      Obls.cons (Obl.plain rfl rfl fun R' w' hw hs hd => by have a0 : R' 2 = (.pointer (some ⟨b2_0, 0, none⟩)) := (hs 2 rfl).trans h2; exact (of_load_box ((hO.fr hw).ok 0 _ rfl).1 a0 (Fld.id _) rfl Try.isAgg44 Try.sizeOf44)) <|
      Obls.cons (Obl.plain rfl rfl fun R' w' hw hs hd => by have a0 : R' 5 = .int .i64 (1048576 : Int) := (hs 5 rfl).trans h5; exact of_move a0) <|
      Obls.cons (Obl.plain rfl rfl fun R' w' hw hs hd => by have a0 : Rep E_laws_SetIndex A w' (R' 14) p0 := hd 0 _ _ _ rfl rfl rfl rfl rfl; have a1 : R' 15 = .int .i64 (1048576 : Int) := hd 1 _ _ _ rfl rfl rfl rfl rfl; exact of_call Try.call33 (M_laws_szSetIndex_ok (q3 rfl) (hA.fr hw.size) a0 a1)) <|
      Obls.cons (Obl.plain rfl rfl fun R' w' hw hs hd => by have a0 : R' 16 = .int .i64 x2 := hd 0 _ _ _ rfl rfl rfl rfl rfl; exact of_assign a0) <|
      Obls.nil
  intro R w hw hs hF'
  replace h1 : R 1 = v1 := (hs 1 rfl).trans h1
  replace h2 : R 2 = (.pointer (some ⟨b2_0, 0, none⟩)) := (hs 2 rfl).trans h2
  have h5 : R 5 = .int .i64 x2 := hF' 3 _ _ rfl rfl rfl
  replace f_v1 := f_v1.fr hw
  replace hO := hO.fr hw
  replace hA := hA.fr hw.size
  replace hF := hF.trans hw
  clear hs hF' hw
  refine seqR_nil ?_
  refine HT.seq ?_
  refine HT.seq ?_
  refine HT.text (l := ⟨_, true, .raw (.int .i64 x2)⟩ :: ⟨_, true, .raw (.bool (decide (x2 < (0 : Int))))⟩ :: []) (tl := []) (by kernel_rfl) (by kernel_rfl) (by kernel_rfl) ?_ ?_
  · exact
      Obls.cons (Obl.plain rfl rfl fun R' w' hw hs hd => by have a0 : R' 5 = .int .i64 x2 := (hs 5 rfl).trans h5; exact of_move a0) <|
      Obls.cons (Obl.plain rfl rfl fun R' w' hw hs hd => by have a0 : R' 17 = .int .i64 x2 := hd 0 _ _ _ rfl rfl rfl rfl rfl; exact of_lss a0 rfl) <|
      Obls.nil
  intro R w hw hs hF'
  replace h1 : R 1 = v1 := (hs 1 rfl).trans h1
  replace h2 : R 2 = (.pointer (some ⟨b2_0, 0, none⟩)) := (hs 2 rfl).trans h2
  replace h5 : R 5 = .int .i64 x2 := (hs 5 rfl).trans h5
  have h18 : R 18 = .bool (decide (x2 < (0 : Int))) := hF' 1 _ _ rfl rfl rfl
  replace f_v1 := f_v1.fr hw
  replace hO := hO.fr hw
  replace hA := hA.fr hw.size
  replace hF := hF.trans hw
  clear hs hF' hw
  refine seqR_nil ?_
  refine HT.cond (decide (x2 < (0 : Int))) h18 (fun c4 => ?_) (fun c4 => ?_)
  · have hr := cnd_t c4 hr
    refine HT.seq ?_
    refine HT.text (l := ⟨_, true, .raw (.bool true)⟩ :: []) (tl := []) (by kernel_rfl) (by kernel_rfl) (by kernel_rfl) ?_ ?_
    · exact
        Obls.cons (Obl.plain rfl rfl fun R' w' hw hs hd => by exact of_assign rfl) <|
        Obls.nil
    intro R w hw hs hF'
    have h4 : R 4 = .bool true := hF' 0 _ _ rfl rfl rfl
    replace hO := hO.fr hw
    replace hO : IniOK [] A w := hO.sub [] trivial
    replace hA := hA.fr hw.size
    replace hF := hF.trans hw
    clear hs hF' hw
    refine seqR_nil ?_
    refine HT.ret ?_
    obtain rfl := Option.some.inj hr
    exact ⟨.inr rfl, [R 4], ⟨rfl, trivial⟩, h4, hF⟩
  · have hr := cnd_f c4 hr
    refine HT.skip ?_
    refine HT.seq ?_
    obtain ⟨x5, q6, hr⟩ := cl_some hr
    refine HT.text (l := ⟨_, true, .raw v1⟩ :: ⟨_, true, .raw (.int .i64 x2)⟩ :: ⟨_, true, .raw (.int .i64 x5)⟩ :: ⟨_, true, .raw (.int .i64 x5)⟩ :: []) (tl := []) (by kernel_rfl) (by kernel_rfl) (by kernel_rfl) ?_ ?_
    · exact
        Obls.cons (Obl.plain rfl rfl fun R' w' hw hs hd => by have a0 : R' 1 = v1 := (hs 1 rfl).trans h1; exact of_move a0) <|
        Obls.cons (Obl.plain rfl rfl fun R' w' hw hs hd => by have a0 : R' 5 = .int .i64 x2 := (hs 5 rfl).trans h5; exact of_move a0) <|
        Obls.cons (Obl.plain rfl rfl fun R' w' hw hs hd => by have a0 : R' 19 = v1 := hd 0 _ _ _ rfl rfl rfl rfl rfl; have ra0 := (f_v1.fr hw).eq a0; have a1 : R' 20 = .int .i64 x2 := hd 1 _ _ _ rfl rfl rfl rfl rfl; exact of_call Try.call14 (M_laws_szStringS_ok (q6 rfl) (hA.fr hw.size) ra0 a1)) <|
        Obls.cons (Obl.plain rfl rfl fun R' w' hw hs hd => by have a0 : R' 21 = .int .i64 x5 := hd 0 _ _ _ rfl rfl rfl rfl rfl; exact of_assign a0) <|
        Obls.nil
    intro R w hw hs hF'
    replace h1 : R 1 = v1 := (hs 1 rfl).trans h1
    replace h2 : R 2 = (.pointer (some ⟨b2_0, 0, none⟩)) := (hs 2 rfl).trans h2
    have h5 : R 5 = .int .i64 x5 := hF' 3 _ _ rfl rfl rfl
    replace f_v1 := f_v1.fr hw
    replace hO := hO.fr hw
    replace hA := hA.fr hw.size
    replace hF := hF.trans hw
    clear hs hF' hw
    refine seqR_nil ?_
    refine HT.seq ?_
    refine HT.seq ?_
    refine HT.text (l := ⟨_, true, .raw (.int .i64 x5)⟩ :: ⟨_, true, .raw (.bool (decide (x5 < (0 : Int))))⟩ :: []) (tl := []) (by kernel_rfl) (by kernel_rfl) (by kernel_rfl) ?_ ?_
    · exact
        Obls.cons (Obl.plain rfl rfl fun R' w' hw hs hd => by have a0 : R' 5 = .int .i64 x5 := (hs 5 rfl).trans h5; exact of_move a0) <|
        Obls.cons (Obl.plain rfl rfl fun R' w' hw hs hd => by have a0 : R' 22 = .int .i64 x5 := hd 0 _ _ _ rfl rfl rfl rfl rfl; exact of_lss a0 rfl) <|
        Obls.nil
    intro R w hw hs hF'
    replace h1 : R 1 = v1 := (hs 1 rfl).trans h1
    replace h2 : R 2 = (.pointer (some ⟨b2_0, 0, none⟩)) := (hs 2 rfl).trans h2
    have h23 : R 23 = .bool (decide (x5 < (0 : Int))) := hF' 1 _ _ rfl rfl rfl
    replace f_v1 := f_v1.fr hw
    replace hO := hO.fr hw
    replace hA := hA.fr hw.size
    replace hF := hF.trans hw
    clear hs hF' hw
    refine seqR_nil ?_
    refine HT.cond (decide (x5 < (0 : Int))) h23 (fun c7 => ?_) (fun c7 => ?_)
    · have hr := cnd_t c7 hr
      refine HT.seq ?_
      refine HT.text (l := ⟨_, true, .raw (.bool true)⟩ :: []) (tl := []) (by kernel_rfl) (by kernel_rfl) (by kernel_rfl) ?_ ?_
      · exact
          Obls.cons (Obl.plain rfl rfl fun R' w' hw hs hd => by exact of_assign rfl) <|
          Obls.nil
      intro R w hw hs hF'
      have h4 : R 4 = .bool true := hF' 0 _ _ rfl rfl rfl
      replace hO := hO.fr hw
      replace hO : IniOK [] A w := hO.sub [] trivial
      replace hA := hA.fr hw.size
      replace hF := hF.trans hw
      clear hs hF' hw
      refine seqR_nil ?_
      refine HT.ret ?_
      obtain rfl := Option.some.inj hr
      exact ⟨.inr rfl, [R 4], ⟨rfl, trivial⟩, h4, hF⟩
    · have hr := cnd_f c7 hr
      refine HT.skip ?_
      refine HT.seq ?_
      obtain ⟨x8, q9, hr⟩ := cl_some hr
      obtain ⟨x10, q11, hr⟩ := cl_some hr
      obtain ⟨x12, q13, hr⟩ := cl_some hr
      refine HT.text (l := ⟨_, true, .rep E_laws_SetIndex A p0⟩ :: ⟨_, true, .rep E_impl_SetIndex A x8⟩ :: ⟨_, true, .raw v1⟩ :: ⟨_, true, .rep (eSl eStr) A x10⟩ :: ⟨_, true, .rep (eSl (eInt .i64)) A x12⟩ :: ⟨_, true, .rep (eSl (eInt .i64)) A x12⟩ :: []) (tl := []) (by kernel_rfl) (by kernel_rfl) (by kernel_rfl) ?_ ?_
      · exact
          Obls.cons (Obl.plain rfl rfl fun R' w' hw hs hd => by have a0 : R' 2 = (.pointer (some ⟨b2_0, 0, none⟩)) := (hs 2 rfl).trans h2; exact (of_load_box ((hO.fr hw).ok 0 _ rfl).1 a0 (Fld.id _) rfl Try.isAgg44 Try.sizeOf44)) <|
          Obls.cons (Obl.plain rfl rfl fun R' w' hw hs hd => by have a0 : Rep E_laws_SetIndex A w' (R' 24) p0 := hd 0 _ _ _ rfl rfl rfl rfl rfl; exact of_call Try.call35 (M_laws_toSetIndex_okR (q9 rfl) (hA.fr hw.size) a0)) <|
          Obls.cons (Obl.plain rfl rfl fun R' w' hw hs hd => by have a0 : R' 1 = v1 := (hs 1 rfl).trans h1; exact of_move a0) <|
          Obls.cons (Obl.plain rfl rfl fun R' w' hw hs hd => by have a0 : R' 26 = v1 := hd 0 _ _ _ rfl rfl rfl rfl rfl; have ra0 := (f_v1.fr hw).eq a0; exact of_call Try.call17 (M_laws_toStringS_okR (q11 rfl) (hA.fr hw.size) ra0)) <|
          Obls.cons (Obl.plain rfl rfl fun R' w' hw hs hd => by have a0 : Rep E_impl_SetIndex A w' (R' 25) x8 := hd 0 _ _ _ rfl rfl rfl rfl rfl; have a1 : Rep (eSl eStr) A w' (R' 27) x10 := hd 1 _ _ _ rfl rfl rfl rfl rfl; exact of_call Try.call46 (M_spec_SearchSets_okR (q13 rfl) (hA.fr hw.size) a0 a1)) <|
          Obls.cons (Obl.plain rfl rfl fun R' w' hw hs hd => by have a0 : Rep (eSl (eInt .i64)) A w' (R' 28) x12 := hd 0 _ _ _ rfl rfl rfl rfl rfl; exact of_assign a0) <|
          Obls.nil
      intro R w hw hs hF'
      replace h1 : R 1 = v1 := (hs 1 rfl).trans h1
      replace h2 : R 2 = (.pointer (some ⟨b2_0, 0, none⟩)) := (hs 2 rfl).trans h2
      obtain ⟨u14, h6, f_u14⟩ : ∃ u, R 6 = u ∧ Rep (eSl (eInt .i64)) A w u x12 := ⟨_, rfl, hF' 5 _ _ rfl rfl rfl⟩
      replace f_v1 := f_v1.fr hw
      replace hO := hO.fr hw
      replace hA := hA.fr hw.size
      replace hF := hF.trans hw
      clear hs hF' hw
      refine seqR_nil ?_
      refine HT.seq ?_
      obtain ⟨x15, q16, hr⟩ := cl_some hr
      refine HT.textR [ob (.pointer (some ⟨b2_0, 0, none⟩)) (.box w0.heap.size 44 E_laws_SetIndex p0)] (⟨_, true, [], none, true, fun A => .rep E_laws_SetIndex A p0⟩ :: ⟨_, true, [], some (trR (geB w0.heap.size) (oPr (oRd (eInt .i64)) (oPr (oSl 76 (oRd E_impl_TokenCount)) (oSl 91 (oPr (oRd (eInt .i64)) (oSl 9 (oRd eStr)))))) x15 []), true, fun A => .any⟩ :: ⟨_, true, [], some (trR (geB w0.heap.size) (oPt 49 (oPr (oRd (eInt .i64)) (oPr (oSl 76 (oRd E_impl_TokenCount)) (oSl 91 (oPr (oRd (eInt .i64)) (oSl 9 (oRd eStr))))))) ((0 : Int), (([] : List T_impl_TokenCount), ([] : List T_impl_IndexedSet))) []), true, fun A => .any⟩ :: ⟨_, true, [3, 2], some (trR (geB w0.heap.size) (oPt 49 (oPr (oRd (eInt .i64)) (oPr (oSl 76 (oRd E_impl_TokenCount)) (oSl 91 (oPr (oRd (eInt .i64)) (oSl 9 (oRd eStr))))))) x15 []), false, fun A => .any⟩ :: []) (by kernel_rfl) (by kernel_rfl) (Wf.mk' (by kernel_rfl) (UAll.cons ust_rep (UAll.cons ust_any (UAll.cons ust_any (UAll.cons ust_any (UAll.nil))))) (by kernel_rfl) (by kernel_rfl)) hO hA ?_ ?_
      · exact
          OblsR.cons (OblR.plain rfl rfl rfl rfl fun A' R' w' ho hd => by have a0 : R' 2 = (.pointer (some ⟨b2_0, 0, none⟩)) := (ho.old 2 rfl).trans h2; exact (of_load_box (ho.rd 0 _ rfl rfl) a0 (Fld.id _) rfl Try.isAgg44 Try.sizeOf44)) <|
          OblsR.cons (OblR.madeS _ rfl rfl rfl rfl fun A' R' w' ho hd => by have a0 : Rep E_laws_SetIndex A' w' (R' 29) p0 := hd 0 _ _ _ rfl rfl rfl rfl rfl; exact made_callT Try.call35 (M_laws_toSetIndex_ok (q16 rfl) ho.av a0) (fun k hk => Nat.le_trans (Nat.le_trans hF.size ho.ch.size) hk)) <|
          OblsR.cons (OblR.madeS _ rfl rfl rfl rfl fun A' R' w' ho hd => by exact made_allocT Try.zeroValue49 (fun A w => own_pr (own_rd rep1_int) (own_pr own_nil own_nil)) (fun k hk => Nat.le_trans (Nat.le_trans hF.size ho.ch.size) hk)) <|
          OblsR.cons (OblR.tookM 3 [2] _ rfl rfl rfl rfl fun A' R' w' ho hd ρ σ hok hav hin hop hds hdd => by have k1 := hok 3 (.head _) _ rfl; exact took_put2 rfl (tr_root k1.2.2).ptr (hok 2 (.tail _ (.head _)) _ rfl).2.2.1 (hop 2 (.tail _ (.head _)) _ _ rfl rfl rfl rfl).symm (hop 3 (.head _) _ _ rfl rfl rfl rfl).symm hav hdd k1.2.1 (hok 2 (.tail _ (.head _)) _ rfl).2.1 Try.sizeOf49 (fun _ _ _ h => h)) <|
          OblsR.nil
      intro done ρ σ A R w hdn hI
      replace h1 : R 1 = v1 := (hI.reg rfl).trans h1
      replace h2 : R 2 = (.pointer (some ⟨b2_0, 0, none⟩)) := (hI.reg rfl).trans h2
      replace h6 : R 6 = u14 := (hI.reg rfl).trans h6
      have z17 := hI.inivR 0 rfl
      obtain ⟨u18, e_u18⟩ : ∃ u, ρ 4 = u := ⟨_, rfl⟩
      have z19 := (hI.opnR hdn 4 3 rfl rfl rfl rfl rfl).symm.trans e_u18
      have h7 : R 7 = u18 := (hI.opvR hdn 3 2 rfl rfl rfl rfl rfl).symm.trans z19
      obtain ⟨S20, eS_u18⟩ : ∃ S, σ 4 = S := ⟨_, rfl⟩
      replace f_u14 := f_u14.stp hI.stp
      replace f_v1 := f_v1.stp hI.stp
      replace hAA := hI.low' hAA hA0 (hO.ge (⟨rfl, trivial⟩))
      replace hF : Fr w0 w := hF.tr hI.ch (hO.ge (⟨rfl, trivial⟩))
      replace hO : IniOK [ob (.pointer (some ⟨b2_0, 0, none⟩)) (.box w0.heap.size 44 E_laws_SetIndex p0), ⟨u18, S20, trR (geB w0.heap.size) (oPt 49 (oPr (oRd (eInt .i64)) (oPr (oSl 76 (oRd E_impl_TokenCount)) (oSl 91 (oPr (oRd (eInt .i64)) (oSl 9 (oRd eStr))))))) x15 []⟩] A w := hI.left hdn [(0, ob (.pointer (some ⟨b2_0, 0, none⟩)) (.box w0.heap.size 44 E_laws_SetIndex p0)), (4, ⟨u18, S20, trR (geB w0.heap.size) (oPt 49 (oPr (oRd (eInt .i64)) (oPr (oSl 76 (oRd E_impl_TokenCount)) (oSl 91 (oPr (oRd (eInt .i64)) (oSl 9 (oRd eStr))))))) x15 []⟩)] ⟨rfl, rfl, z17, rfl, rfl, ⟨rfl, rfl, e_u18, eS_u18, rfl, trivial⟩⟩
      replace hA := hI.avok
      clear hI
      refine HT.seq ?_
      obtain ⟨x21, q22, hr⟩ := cl_some hr
      refine HT.textR [ob (.pointer (some ⟨b2_0, 0, none⟩)) (.box w0.heap.size 44 E_laws_SetIndex p0), ⟨u18, S20, trR (geB w0.heap.size) (oPt 49 (oPr (oRd (eInt .i64)) (oPr (oSl 76 (oRd E_impl_TokenCount)) (oSl 91 (oPr (oRd (eInt .i64)) (oSl 9 (oRd eStr))))))) x15 []⟩] (⟨_, true, [], none, true, fun A => .raw v1⟩ :: ⟨_, true, [], some (.vec w0.heap.size 9 eStr x21), true, fun A => .any⟩ :: ⟨_, true, [3], some (.vec w0.heap.size 9 eStr x21), true, fun A => .any⟩ :: []) (by kernel_rfl) (by kernel_rfl) (Wf.mk' (by kernel_rfl) (UAll.cons ust_raw (UAll.cons ust_any (UAll.cons ust_any (UAll.nil)))) (by kernel_rfl) (by kernel_rfl)) hO hA ?_ ?_
      · exact
          OblsR.cons (OblR.plain rfl rfl rfl rfl fun A' R' w' ho hd => by have a0 : R' 1 = v1 := (ho.old 1 rfl).trans h1; exact of_move a0) <|
          OblsR.cons (OblR.made _ rfl rfl rfl rfl fun A' R' w' ho hd => by have a0 : R' 31 = v1 := hd 0 _ _ _ rfl rfl rfl rfl rfl; have ra0 := (f_v1.stp ho.stp).eq a0; exact made_call Try.call17 (M_laws_toStringS_ok (q22 rfl) ho.av ra0) (Nat.le_trans hF.size ho.ch.size)) <|
          OblsR.cons (OblR.took 3 _ _ rfl rfl rfl rfl rfl fun A' R' w' ho hd u hok hav hin hop hds => by exact took_assign (hop _ _ rfl rfl rfl rfl).symm hok hav) <|
          OblsR.nil
      intro done ρ σ A R w hdn hI
      replace h1 : R 1 = v1 := (hI.reg rfl).trans h1
      replace h2 : R 2 = (.pointer (some ⟨b2_0, 0, none⟩)) := (hI.reg rfl).trans h2
      replace h6 : R 6 = u14 := (hI.reg rfl).trans h6
      replace h7 : R 7 = u18 := (hI.reg rfl).trans h7
      have z23 := hI.inivR 0 rfl
      have z24 := hI.inivR 1 rfl
      obtain ⟨u25, e_u25⟩ : ∃ u, ρ 4 = u := ⟨_, rfl⟩
      have h8 : R 8 = u25 := (hI.opvR hdn 4 2 rfl rfl rfl rfl rfl).symm.trans e_u25
      have eS_u18 := hI.inisR 1 rfl
      replace f_u14 := f_u14.stp hI.stp
      replace f_v1 := f_v1.stp hI.stp
      replace hAA := hI.low' hAA hA0 (hO.ge (⟨rfl, ⟨fun _ h => h, trivial⟩⟩))
      replace hF : Fr w0 w := hF.tr hI.ch (hO.ge (⟨rfl, ⟨fun _ h => h, trivial⟩⟩))
      replace hO : IniOK [ob (.pointer (some ⟨b2_0, 0, none⟩)) (.box w0.heap.size 44 E_laws_SetIndex p0), ⟨u18, S20, trR (geB w0.heap.size) (oPt 49 (oPr (oRd (eInt .i64)) (oPr (oSl 76 (oRd E_impl_TokenCount)) (oSl 91 (oPr (oRd (eInt .i64)) (oSl 9 (oRd eStr))))))) x15 []⟩, ob u25 (.vec w0.heap.size 9 eStr x21)] A w := hI.left hdn [(0, ob (.pointer (some ⟨b2_0, 0, none⟩)) (.box w0.heap.size 44 E_laws_SetIndex p0)), (1, ⟨u18, S20, trR (geB w0.heap.size) (oPt 49 (oPr (oRd (eInt .i64)) (oPr (oSl 76 (oRd E_impl_TokenCount)) (oSl 91 (oPr (oRd (eInt .i64)) (oSl 9 (oRd eStr))))))) x15 []⟩), (4, ob u25 (.vec w0.heap.size 9 eStr x21))] ⟨rfl, rfl, z23, rfl, rfl, ⟨rfl, rfl, z24, eS_u18, rfl, ⟨rfl, rfl, e_u25, rfl, rfl, trivial⟩⟩⟩
      replace hA := hI.avok
      clear hI
      refine HT.seq ?_
      obtain ⟨h26, l_h26, p_h26⟩ := ((tr_root (hO.own 1 _ rfl).2).ptr).open
      replace hO : IniOK [ob (.pointer (some ⟨b2_0, 0, none⟩)) (.box w0.heap.size 44 E_laws_SetIndex p0), ⟨u18, S20, trR (geB w0.heap.size) (oPt 49 (oPr (oRd (eInt .i64)) (oPr (oSl 76 (oRd E_impl_TokenCount)) (oSl 91 (oPr (oRd (eInt .i64)) (oSl 9 (oRd eStr))))))) x15 [(u18, h26)]⟩, ob u25 (.vec w0.heap.size 9 eStr x21)] A w := hO.repin 1 rfl (trP.pin p_h26)
      obtain ⟨x28, q29, hr⟩ := cl_some hr
      refine HT.textR [ob (.pointer (some ⟨b2_0, 0, none⟩)) (.box w0.heap.size 44 E_laws_SetIndex p0), ⟨u18, S20, trR (geB w0.heap.size) (oPt 49 (oPr (oRd (eInt .i64)) (oPr (oSl 76 (oRd E_impl_TokenCount)) (oSl 91 (oPr (oRd (eInt .i64)) (oSl 9 (oRd eStr))))))) x15 [(u18, h26)]⟩, ob u25 (.vec w0.heap.size 9 eStr x21)] (⟨_, true, [], none, true, fun A => .raw (Enc.val E_impl_SetIndex h26)⟩ :: ⟨_, true, [], none, true, fun A => .raw u25⟩ :: ⟨_, true, [], some (.vec w0.heap.size 3 (eInt .i64) x28), true, fun A => .any⟩ :: ⟨_, true, [5], some (.vec w0.heap.size 3 (eInt .i64) x28), true, fun A => .any⟩ :: []) (by kernel_rfl) (by kernel_rfl) (Wf.mk' (by kernel_rfl) (UAll.cons ust_raw (UAll.cons ust_raw (UAll.cons ust_any (UAll.cons ust_any (UAll.nil))))) (by kernel_rfl) (by kernel_rfl)) hO hA ?_ ?_
      · exact
          OblsR.cons (OblR.plain rfl rfl rfl rfl fun A' R' w' ho hd => by have a0 : R' 7 = u18 := (ho.old 7 rfl).trans h7; exact of_load_pinS (F := oPr (oRd (eInt .i64)) (oPr (oSl 76 (oRd E_impl_TokenCount)) (oSl 91 (oPr (oRd (eInt .i64)) (oSl 9 (oRd eStr)))))) ((ho.rdo 1 _ rfl rfl).2.2 _ (.head _)) l_h26 a0 Try.isAgg49 Try.sizeOf49) <|
          OblsR.cons (OblR.plain rfl rfl rfl rfl fun A' R' w' ho hd => by have a0 : R' 8 = u25 := (ho.old 8 rfl).trans h8; exact of_move a0) <|
          OblsR.cons (OblR.made _ rfl rfl rfl rfl fun A' R' w' ho hd => by have a0 : R' 33 = (Enc.val E_impl_SetIndex h26) := hd 0 _ _ _ rfl rfl rfl rfl rfl; have ra0 : Rep E_impl_SetIndex A0 w' (R' 33) _ := (vh_rep (((tr_root (ho.rdo 1 _ rfl rfl).2).ptr).pinS ((ho.rdo 1 _ rfl rfl).2.2 _ (.head _)) l_h26) (ho.low' hAA hA0 (hO.ge (⟨rfl, ⟨fun _ h => h, ⟨rfl, trivial⟩⟩⟩))) (fun k o hk ha => Nat.not_lt.2 ((ho.rdo 1 _ rfl rfl).1 k hk) (hA0 k o ha))).eq a0; have a1 : R' 34 = u25 := hd 1 _ _ _ rfl rfl rfl rfl rfl; have ra1 := (vec_rep (ho.rd 2 _ rfl rfl) (ho.low' hAA hA0 (hO.ge (⟨rfl, ⟨fun _ h => h, ⟨rfl, trivial⟩⟩⟩))) hA0).eq a1; exact made_call0 Try.call47 (M_impl_SearchSets_ok (q29 rfl) (hA00.fr ((Nat.le_trans hF.size ho.ch.size))) ra0 ra1) (Nat.le_trans hF.size ho.ch.size) (ho.low' hAA hA0 (hO.ge (⟨rfl, ⟨fun _ h => h, ⟨rfl, trivial⟩⟩⟩))) (fun _ _ _ _ _ h => h)) <|
          OblsR.cons (OblR.took 5 _ _ rfl rfl rfl rfl rfl fun A' R' w' ho hd u hok hav hin hop hds => by exact took_assign (hop _ _ rfl rfl rfl rfl).symm hok hav) <|
          OblsR.nil
      intro done ρ σ A R w hdn hI
      replace h1 : R 1 = v1 := (hI.reg rfl).trans h1
      replace h2 : R 2 = (.pointer (some ⟨b2_0, 0, none⟩)) := (hI.reg rfl).trans h2
      replace h6 : R 6 = u14 := (hI.reg rfl).trans h6
      replace h7 : R 7 = u18 := (hI.reg rfl).trans h7
      replace h8 : R 8 = u25 := (hI.reg rfl).trans h8
      have z30 := hI.inivR 0 rfl
      have z31 := hI.inivR 1 rfl
      have z32 := hI.inivR 2 rfl
      obtain ⟨u33, e_u33⟩ : ∃ u, ρ 6 = u := ⟨_, rfl⟩
      have h9 : R 9 = u33 := (hI.opvR hdn 6 3 rfl rfl rfl rfl rfl).symm.trans e_u33
      have eS_u18 := hI.inisR 1 rfl
      replace f_u14 := f_u14.stp hI.stp
      replace f_v1 := f_v1.stp hI.stp
      replace hAA := hI.low' hAA hA0 (hO.ge (⟨rfl, ⟨fun _ h => h, ⟨rfl, trivial⟩⟩⟩))
      replace hF : Fr w0 w := hF.tr hI.ch (hO.ge (⟨rfl, ⟨fun _ h => h, ⟨rfl, trivial⟩⟩⟩))
      replace hO : IniOK [ob (.pointer (some ⟨b2_0, 0, none⟩)) (.box w0.heap.size 44 E_laws_SetIndex p0), ⟨u18, S20, trR (geB w0.heap.size) (oPt 49 (oPr (oRd (eInt .i64)) (oPr (oSl 76 (oRd E_impl_TokenCount)) (oSl 91 (oPr (oRd (eInt .i64)) (oSl 9 (oRd eStr))))))) x15 [(u18, h26)]⟩, ob u25 (.vec w0.heap.size 9 eStr x21), ob u33 (.vec w0.heap.size 3 (eInt .i64) x28)] A w := hI.left hdn [(0, ob (.pointer (some ⟨b2_0, 0, none⟩)) (.box w0.heap.size 44 E_laws_SetIndex p0)), (1, ⟨u18, S20, trR (geB w0.heap.size) (oPt 49 (oPr (oRd (eInt .i64)) (oPr (oSl 76 (oRd E_impl_TokenCount)) (oSl 91 (oPr (oRd (eInt .i64)) (oSl 9 (oRd eStr))))))) x15 [(u18, h26)]⟩), (2, ob u25 (.vec w0.heap.size 9 eStr x21)), (6, ob u33 (.vec w0.heap.size 3 (eInt .i64) x28))] ⟨rfl, rfl, z30, rfl, rfl, ⟨rfl, rfl, z31, eS_u18, rfl, ⟨rfl, rfl, z32, rfl, rfl, ⟨rfl, rfl, e_u33, rfl, rfl, trivial⟩⟩⟩⟩
      replace hA := hI.avok
      clear hI
      replace hO : IniOK [ob (.pointer (some ⟨b2_0, 0, none⟩)) (.box w0.heap.size 44 E_laws_SetIndex p0), ⟨u18, S20, trR (geB w0.heap.size) (oPt 49 (oPr (oRd (eInt .i64)) (oPr (oSl 76 (oRd E_impl_TokenCount)) (oSl 91 (oPr (oRd (eInt .i64)) (oSl 9 (oRd eStr))))))) x15 []⟩, ob u25 (.vec w0.heap.size 9 eStr x21), ob u33 (.vec w0.heap.size 3 (eInt .i64) x28)] A w := hO.repin 1 rfl trP.nopin
      refine HT.seq ?_
      refine HT.seq ?_
      obtain ⟨x34, q35, hr⟩ := cl_some hr
      refine HT.text (l := ⟨_, true, .raw u33⟩ :: ⟨_, true, .raw u14⟩ :: ⟨_, true, .raw (.bool x34)⟩ :: ⟨_, true, .raw (.bool (!x34))⟩ :: []) (tl := []) (by kernel_rfl) (by kernel_rfl) (by kernel_rfl) ?_ ?_
      · exact
          Obls.cons (Obl.plain rfl rfl fun R' w' hw hs hd => by have a0 : R' 9 = u33 := (hs 9 rfl).trans h9; exact of_move a0) <|
          Obls.cons (Obl.plain rfl rfl fun R' w' hw hs hd => by have a0 : R' 6 = u14 := (hs 6 rfl).trans h6; exact of_move a0) <|
          Obls.cons (Obl.plain rfl rfl fun R' w' hw hs hd => by have a0 : R' 36 = u33 := hd 0 _ _ _ rfl rfl rfl rfl rfl; have ra0 := (vec_rep ((hO.fr hw).ok 3 _ rfl).1 hAA hA0).eq a0; have a1 : R' 37 = u14 := hd 1 _ _ _ rfl rfl rfl rfl rfl; have ra1 := (f_u14.fr hw).eq a1; exact of_call Try.call48 (M_laws_eqIntS_ok (q35 rfl) (hA00.fr ((Nat.le_trans hF.size hw.size))) ra0 (ra1.down hAA))) <|
          Obls.cons (Obl.plain rfl rfl fun R' w' hw hs hd => by have a0 : R' 38 = .bool x34 := hd 0 _ _ _ rfl rfl rfl rfl rfl; exact of_not a0) <|
          Obls.nil
      intro R w hw hs hF'
      replace h1 : R 1 = v1 := (hs 1 rfl).trans h1
      replace h2 : R 2 = (.pointer (some ⟨b2_0, 0, none⟩)) := (hs 2 rfl).trans h2
      replace h6 : R 6 = u14 := (hs 6 rfl).trans h6
      replace h7 : R 7 = u18 := (hs 7 rfl).trans h7
      replace h8 : R 8 = u25 := (hs 8 rfl).trans h8
      replace h9 : R 9 = u33 := (hs 9 rfl).trans h9
      have h39 : R 39 = .bool (!x34) := hF' 3 _ _ rfl rfl rfl
      replace f_u14 := f_u14.fr hw
      replace f_v1 := f_v1.fr hw
      replace hO := hO.fr hw
      replace hA := hA.fr hw.size
      replace hF := hF.trans hw
      clear hs hF' hw
      refine seqR_nil ?_
      refine HT.cond (!x34) h39 (fun c36 => ?_) (fun c36 => ?_)
      · have hr := cnd_t c36 hr
        refine HT.seq ?_
        refine HT.text (l := ⟨_, true, .raw (.bool false)⟩ :: []) (tl := []) (by kernel_rfl) (by kernel_rfl) (by kernel_rfl) ?_ ?_
        · exact
            Obls.cons (Obl.plain rfl rfl fun R' w' hw hs hd => by exact of_assign rfl) <|
            Obls.nil
        intro R w hw hs hF'
        have h4 : R 4 = .bool false := hF' 0 _ _ rfl rfl rfl
        replace hO := hO.fr hw
        replace hO : IniOK [] A w := hO.sub [] trivial
        replace hA := hA.fr hw.size
        replace hF := hF.trans hw
        clear hs hF' hw
        refine seqR_nil ?_
        refine HT.ret ?_
        obtain rfl := Option.some.inj hr
        exact ⟨.inr rfl, [R 4], ⟨rfl, trivial⟩, h4, hF⟩
      · have hr := cnd_f c36 hr
        refine HT.skip ?_
        refine HT.seq ?_
        refine HT.seq ?_
        obtain ⟨h37, l_h37, p_h37⟩ := ((tr_root (hO.own 1 _ rfl).2).ptr).open
        replace hO : IniOK [ob (.pointer (some ⟨b2_0, 0, none⟩)) (.box w0.heap.size 44 E_laws_SetIndex p0), ⟨u18, S20, trR (geB w0.heap.size) (oPt 49 (oPr (oRd (eInt .i64)) (oPr (oSl 76 (oRd E_impl_TokenCount)) (oSl 91 (oPr (oRd (eInt .i64)) (oSl 9 (oRd eStr))))))) x15 [(u18, h37)]⟩, ob u25 (.vec w0.heap.size 9 eStr x21), ob u33 (.vec w0.heap.size 3 (eInt .i64) x28)] A w := hO.repin 1 rfl (trP.pin p_h37)
        obtain ⟨x39, q40, hr⟩ := cl_some hr
        obtain ⟨x41, q42, hr⟩ := cl_some hr
        refine HT.draw (by kernel_rfl) (l := ⟨_, true, .raw (Enc.val E_impl_SetIndex h37)⟩ :: ⟨_, true, .rep E_laws_SetIndex A p0⟩ :: ⟨_, true, .rep E_impl_SetIndex A x39⟩ :: ⟨_, true, .raw (.bool x41)⟩ :: ⟨_, true, .raw (.bool (!x41))⟩ :: []) (tl := []) (by kernel_rfl) (by kernel_rfl) (by kernel_rfl) (by kernel_rfl) ?_ ?_
        · exact
            Obls.cons (Obl.plain rfl rfl fun R' w' hw hs hd => by have a0 : R' 7 = u18 := (hs 7 rfl).trans h7; exact of_load_pinS (F := oPr (oRd (eInt .i64)) (oPr (oSl 76 (oRd E_impl_TokenCount)) (oSl 91 (oPr (oRd (eInt .i64)) (oSl 9 (oRd eStr)))))) (((hO.fr hw).own 1 _ rfl).2.2 _ (.head _)) l_h37 a0 Try.isAgg49 Try.sizeOf49) <|
            Obls.cons (Obl.plain rfl rfl fun R' w' hw hs hd => by have a0 : R' 2 = (.pointer (some ⟨b2_0, 0, none⟩)) := (hs 2 rfl).trans h2; exact (of_load_box ((hO.fr hw).ok 0 _ rfl).1 a0 (Fld.id _) rfl Try.isAgg44 Try.sizeOf44)) <|
            Obls.cons (Obl.plain rfl rfl fun R' w' hw hs hd => by have a0 : Rep E_laws_SetIndex A w' (R' 41) p0 := hd 0 _ _ _ rfl rfl rfl rfl rfl; exact of_call Try.call35 (M_laws_toSetIndex_okR (q40 rfl) (hA.fr hw.size) a0)) <|
            Obls.cons (Obl.plain rfl rfl fun R' w' hw hs hd => by have a0 : R' 40 = (Enc.val E_impl_SetIndex h37) := hd 0 _ _ _ rfl rfl rfl rfl rfl; have ra0 : Rep E_impl_SetIndex A0 w' (R' 40) _ := (vh_rep (((tr_root ((hO.fr hw).own 1 _ rfl).2).ptr).pinS (((hO.fr hw).own 1 _ rfl).2.2 _ (.head _)) l_h37) hAA (fun k o hk ha => Nat.not_lt.2 (((hO.fr hw).own 1 _ rfl).1 k hk) (hA0 k o ha))).eq a0; have a1 : Rep E_impl_SetIndex A w' (R' 42) x39 := hd 1 _ _ _ rfl rfl rfl rfl rfl; exact of_call Try.call37 (M_laws_eqSetIndex_ok (q42 rfl) (hA00.fr ((Nat.le_trans hF.size hw.size))) ra0 (a1.down hAA))) <|
            Obls.cons (Obl.plain rfl rfl fun R' w' hw hs hd => by have a0 : R' 43 = .bool x41 := hd 0 _ _ _ rfl rfl rfl rfl rfl; exact of_not a0) <|
            Obls.nil
        intro R w hw hs hF'
        replace h1 : R 1 = v1 := (hs 1 rfl).trans h1
        replace h2 : R 2 = (.pointer (some ⟨b2_0, 0, none⟩)) := (hs 2 rfl).trans h2
        replace h6 : R 6 = u14 := (hs 6 rfl).trans h6
        replace h7 : R 7 = u18 := (hs 7 rfl).trans h7
        replace h8 : R 8 = u25 := (hs 8 rfl).trans h8
        replace h9 : R 9 = u33 := (hs 9 rfl).trans h9
        have h44 : R 44 = .bool (!x41) := hF' 4 _ _ rfl rfl rfl
        replace f_u14 := f_u14.fr hw
        replace f_v1 := f_v1.fr hw
        replace hO := hO.fr hw
        replace hA := hA.fr hw.size
        replace hF := hF.trans hw
        clear hs hF' hw
        refine seqR_nil ?_
        replace hO : IniOK [ob (.pointer (some ⟨b2_0, 0, none⟩)) (.box w0.heap.size 44 E_laws_SetIndex p0), ⟨u18, S20, trR (geB w0.heap.size) (oPt 49 (oPr (oRd (eInt .i64)) (oPr (oSl 76 (oRd E_impl_TokenCount)) (oSl 91 (oPr (oRd (eInt .i64)) (oSl 9 (oRd eStr))))))) x15 []⟩, ob u25 (.vec w0.heap.size 9 eStr x21), ob u33 (.vec w0.heap.size 3 (eInt .i64) x28)] A w := hO.repin 1 rfl trP.nopin
        refine HT.cond (!x41) h44 (fun c43 => ?_) (fun c43 => ?_)
        · have hr := cnd_t c43 hr
          refine HT.seq ?_
          refine HT.text (l := ⟨_, true, .raw (.bool false)⟩ :: []) (tl := []) (by kernel_rfl) (by kernel_rfl) (by kernel_rfl) ?_ ?_
          · exact
              Obls.cons (Obl.plain rfl rfl fun R' w' hw hs hd => by exact of_assign rfl) <|
              Obls.nil
          intro R w hw hs hF'
          have h4 : R 4 = .bool false := hF' 0 _ _ rfl rfl rfl
          replace hO := hO.fr hw
          replace hO : IniOK [] A w := hO.sub [] trivial
          replace hA := hA.fr hw.size
          replace hF := hF.trans hw
          clear hs hF' hw
          refine seqR_nil ?_
          refine HT.ret ?_
          obtain rfl := Option.some.inj hr
          exact ⟨.inr rfl, [R 4], ⟨rfl, trivial⟩, h4, hF⟩
        · have hr := cnd_f c43 hr
          refine HT.skip ?_
          refine HT.seq ?_
          refine HT.seq ?_
          obtain ⟨x44, q45, hr⟩ := cl_some hr
          obtain ⟨x46, q47, hr⟩ := cl_some hr
          refine HT.text (l := ⟨_, true, .raw u25⟩ :: ⟨_, true, .raw v1⟩ :: ⟨_, true, .rep (eSl eStr) A x44⟩ :: ⟨_, true, .raw (.bool x46)⟩ :: ⟨_, true, .raw (.bool (!x46))⟩ :: []) (tl := []) (by kernel_rfl) (by kernel_rfl) (by kernel_rfl) ?_ ?_
          · exact
              Obls.cons (Obl.plain rfl rfl fun R' w' hw hs hd => by have a0 : R' 8 = u25 := (hs 8 rfl).trans h8; exact of_move a0) <|
              Obls.cons (Obl.plain rfl rfl fun R' w' hw hs hd => by have a0 : R' 1 = v1 := (hs 1 rfl).trans h1; exact of_move a0) <|
              Obls.cons (Obl.plain rfl rfl fun R' w' hw hs hd => by have a0 : R' 46 = v1 := hd 0 _ _ _ rfl rfl rfl rfl rfl; have ra0 := (f_v1.fr hw).eq a0; exact of_call Try.call17 (M_laws_toStringS_okR (q45 rfl) (hA.fr hw.size) ra0)) <|
              Obls.cons (Obl.plain rfl rfl fun R' w' hw hs hd => by have a0 : R' 45 = u25 := hd 0 _ _ _ rfl rfl rfl rfl rfl; have ra0 := (vec_rep ((hO.fr hw).ok 2 _ rfl).1 hAA hA0).eq a0; have a1 : Rep (eSl eStr) A w' (R' 47) x44 := hd 1 _ _ _ rfl rfl rfl rfl rfl; exact of_call Try.call19 (M_laws_eqStringS_ok (q47 rfl) (hA00.fr ((Nat.le_trans hF.size hw.size))) ra0 (a1.down hAA))) <|
              Obls.cons (Obl.plain rfl rfl fun R' w' hw hs hd => by have a0 : R' 48 = .bool x46 := hd 0 _ _ _ rfl rfl rfl rfl rfl; exact of_not a0) <|
              Obls.nil
          intro R w hw hs hF'
          replace h1 : R 1 = v1 := (hs 1 rfl).trans h1
          replace h2 : R 2 = (.pointer (some ⟨b2_0, 0, none⟩)) := (hs 2 rfl).trans h2
          replace h6 : R 6 = u14 := (hs 6 rfl).trans h6
          replace h7 : R 7 = u18 := (hs 7 rfl).trans h7
          replace h8 : R 8 = u25 := (hs 8 rfl).trans h8
          replace h9 : R 9 = u33 := (hs 9 rfl).trans h9
          have h49 : R 49 = .bool (!x46) := hF' 4 _ _ rfl rfl rfl
          replace f_u14 := f_u14.fr hw
          replace f_v1 := f_v1.fr hw
          replace hO := hO.fr hw
          replace hA := hA.fr hw.size
          replace hF := hF.trans hw
          clear hs hF' hw
          refine seqR_nil ?_
          refine HT.cond (!x46) h49 (fun c48 => ?_) (fun c48 => ?_)
          · have hr := cnd_t c48 hr
            refine HT.seq ?_
            refine HT.text (l := ⟨_, true, .raw (.bool false)⟩ :: []) (tl := []) (by kernel_rfl) (by kernel_rfl) (by kernel_rfl) ?_ ?_
            · exact
                Obls.cons (Obl.plain rfl rfl fun R' w' hw hs hd => by exact of_assign rfl) <|
                Obls.nil
            intro R w hw hs hF'
            have h4 : R 4 = .bool false := hF' 0 _ _ rfl rfl rfl
            replace hO := hO.fr hw
            replace hO : IniOK [] A w := hO.sub [] trivial
            replace hA := hA.fr hw.size
            replace hF := hF.trans hw
            clear hs hF' hw
            refine seqR_nil ?_
            refine HT.ret ?_
            obtain rfl := Option.some.inj hr
            exact ⟨.inr rfl, [R 4], ⟨rfl, trivial⟩, h4, hF⟩
          · have hr := cnd_f c48 hr
            refine HT.skip ?_
            refine HT.seq ?_
            refine HT.text (l := ⟨_, true, .raw (.int .i64 (1 : Int))⟩ :: []) (tl := []) (by kernel_rfl) (by kernel_rfl) (by kernel_rfl) ?_ ?_
            · exact
                Obls.cons (Obl.plain rfl rfl fun R' w' hw hs hd => by exact of_assign rfl) <|
                Obls.nil
            intro R w hw hs hF'
            replace h1 : R 1 = v1 := (hs 1 rfl).trans h1
            replace h2 : R 2 = (.pointer (some ⟨b2_0, 0, none⟩)) := (hs 2 rfl).trans h2
            replace h6 : R 6 = u14 := (hs 6 rfl).trans h6
            replace h7 : R 7 = u18 := (hs 7 rfl).trans h7
            replace h8 : R 8 = u25 := (hs 8 rfl).trans h8
            replace h9 : R 9 = u33 := (hs 9 rfl).trans h9
            have h10 : R 10 = .int .i64 (1 : Int) := hF' 0 _ _ rfl rfl rfl
            replace f_u14 := f_u14.fr hw
            replace f_v1 := f_v1.fr hw
            replace hO := hO.fr hw
            replace hA := hA.fr hw.size
            replace hF := hF.trans hw
            clear hs hF' hw
            refine seqR_nil ?_
            refine HT.seq ?_
            obtain ⟨h49, l_h49, p_h49⟩ := ((tr_root (hO.own 1 _ rfl).2).ptr).open
            replace hO : IniOK [ob (.pointer (some ⟨b2_0, 0, none⟩)) (.box w0.heap.size 44 E_laws_SetIndex p0), ⟨u18, S20, trR (geB w0.heap.size) (oPt 49 (oPr (oRd (eInt .i64)) (oPr (oSl 76 (oRd E_impl_TokenCount)) (oSl 91 (oPr (oRd (eInt .i64)) (oSl 9 (oRd eStr))))))) x15 [(u18, h49)]⟩, ob u25 (.vec w0.heap.size 9 eStr x21), ob u33 (.vec w0.heap.size 3 (eInt .i64) x28)] A w := hO.repin 1 rfl (trP.pin p_h49)
            obtain ⟨x51, q52, hr⟩ := cl_some hr
            refine HT.textR [ob (.pointer (some ⟨b2_0, 0, none⟩)) (.box w0.heap.size 44 E_laws_SetIndex p0), ⟨u18, S20, trR (geB w0.heap.size) (oPt 49 (oPr (oRd (eInt .i64)) (oPr (oSl 76 (oRd E_impl_TokenCount)) (oSl 91 (oPr (oRd (eInt .i64)) (oSl 9 (oRd eStr))))))) x15 [(u18, h49)]⟩, ob u25 (.vec w0.heap.size 9 eStr x21), ob u33 (.vec w0.heap.size 3 (eInt .i64) x28)] (⟨_, true, [], none, true, fun A => .raw (Enc.val E_impl_SetIndex h49)⟩ :: ⟨_, true, [], none, true, fun A => .raw (.int .i64 (1 : Int))⟩ :: ⟨_, true, [1], some (trR (geB w0.heap.size) (oPt 49 (oPr (oRd (eInt .i64)) (oPr (oSl 76 (oRd E_impl_TokenCount)) (oSl 91 (oPr (oRd (eInt .i64)) (oSl 9 (oRd eStr))))))) x51.2 []), false, fun A => .raw (.int .i64 x51.1)⟩ :: ⟨_, true, [], none, true, fun A => .raw (.int .i64 x51.1)⟩ :: []) (by kernel_rfl) (by kernel_rfl) (Wf.mk' (by kernel_rfl) (UAll.cons ust_raw (UAll.cons ust_raw (UAll.cons ust_raw (UAll.cons ust_raw (UAll.nil))))) (by kernel_rfl) (by kernel_rfl)) hO hA ?_ ?_
            · exact
                OblsR.cons (OblR.plain rfl rfl rfl rfl fun A' R' w' ho hd => by have a0 : R' 7 = u18 := (ho.old 7 rfl).trans h7; exact of_load_pinS (F := oPr (oRd (eInt .i64)) (oPr (oSl 76 (oRd E_impl_TokenCount)) (oSl 91 (oPr (oRd (eInt .i64)) (oSl 9 (oRd eStr)))))) ((ho.rdo 1 _ rfl rfl).2.2 _ (.head _)) l_h49 a0 Try.isAgg49 Try.sizeOf49) <|
                OblsR.cons (OblR.plain rfl rfl rfl rfl fun A' R' w' ho hd => by have a0 : R' 10 = .int .i64 (1 : Int) := (ho.old 10 rfl).trans h10; exact of_move a0) <|
                OblsR.cons (OblR.tookS 1 _ _ rfl rfl rfl rfl rfl fun A' R' w' ho hd u S hok hown hav hin hop hds => by have a0 : R' 50 = (Enc.val E_impl_SetIndex h49) := hd 0 _ _ _ rfl rfl rfl rfl rfl; have a1 : R' 51 = .int .i64 (1 : Int) := hd 1 _ _ _ rfl rfl rfl rfl rfl; have e0 := (hin _ rfl).1; rw [e0] at hown ⊢; have hu0 : evalR R' (.tmp 50) = (Enc.val E_impl_SetIndex h49) := a0; exact took_callT Try.call40 (((tr_root hown.2).ptr).pinS (hown.2.2 _ (.head _)) l_h49) hav hown.1 (fun k hk => Nat.le_trans (Nat.le_trans hF.size ho.ch.size) hk) (fun k hk => SP.lt _ hown.2 hk) (fun S1 hS1 hP => by simp only [List.map, hu0]; exact M_laws_markSetIndex_ok (q52 rfl) (ho.av.subS _) (fun b o h => h.2) hP a1) (fun _ _ _ h => h)) <|
                OblsR.cons (OblR.plain rfl rfl rfl rfl fun A' R' w' ho hd => by have a0 : R' 52 = .int .i64 x51.1 := hd 0 _ _ _ rfl rfl rfl rfl rfl; exact of_assign a0) <|
                OblsR.nil
            intro done ρ σ A R w hdn hI
            replace h1 : R 1 = v1 := (hI.reg rfl).trans h1
            replace h2 : R 2 = (.pointer (some ⟨b2_0, 0, none⟩)) := (hI.reg rfl).trans h2
            replace h6 : R 6 = u14 := (hI.reg rfl).trans h6
            replace h8 : R 8 = u25 := (hI.reg rfl).trans h8
            replace h9 : R 9 = u33 := (hI.reg rfl).trans h9
            have z53 := hI.inivR 0 rfl
            have z54 := hI.inivR 1 rfl
            have z55 := (hI.opnR hdn 6 2 rfl rfl rfl rfl rfl).trans z54
            have z56 := hI.inivR 2 rfl
            have z57 := hI.inivR 3 rfl
            obtain ⟨S58, eS_u18⟩ : ∃ S, σ 6 = S := ⟨_, rfl⟩
            have h10 : R 10 = .int .i64 x51.1 := hI.fact hdn (i := 3) rfl rfl rfl
            replace f_u14 := f_u14.stp hI.stp
            replace f_v1 := f_v1.stp hI.stp
            replace hAA := hI.low' hAA hA0 (hO.ge (⟨rfl, ⟨fun _ h => h, ⟨rfl, ⟨rfl, trivial⟩⟩⟩⟩))
            replace hF : Fr w0 w := hF.tr hI.ch (hO.ge (⟨rfl, ⟨fun _ h => h, ⟨rfl, ⟨rfl, trivial⟩⟩⟩⟩))
            replace hO : IniOK [ob (.pointer (some ⟨b2_0, 0, none⟩)) (.box w0.heap.size 44 E_laws_SetIndex p0), ob u25 (.vec w0.heap.size 9 eStr x21), ob u33 (.vec w0.heap.size 3 (eInt .i64) x28)] A w := hI.left hdn [(0, ob (.pointer (some ⟨b2_0, 0, none⟩)) (.box w0.heap.size 44 E_laws_SetIndex p0)), (2, ob u25 (.vec w0.heap.size 9 eStr x21)), (3, ob u33 (.vec w0.heap.size 3 (eInt .i64) x28))] ⟨rfl, rfl, z53, rfl, rfl, ⟨rfl, rfl, z56, rfl, rfl, ⟨rfl, rfl, z57, rfl, rfl, trivial⟩⟩⟩
            replace hA := hI.avok
            clear hI
            refine HT.seq ?_
            obtain ⟨x59, q60, hr⟩ := cl_some hr
            refine HT.textR [ob (.pointer (some ⟨b2_0, 0, none⟩)) (.box w0.heap.size 44 E_laws_SetIndex p0), ob u25 (.vec w0.heap.size 9 eStr x21), ob u33 (.vec w0.heap.size 3 (eInt .i64) x28)] (⟨_, true, [], none, true, fun A => .raw u25⟩ :: ⟨_, true, [], none, true, fun A => .raw (.int .i64 x51.1)⟩ :: ⟨_, true, [1], some (.vec w0.heap.size 9 eStr x59.2), false, fun A => .raw (.int .i64 x59.1)⟩ :: ⟨_, true, [], none, true, fun A => .raw (.int .i64 x59.1)⟩ :: []) (by kernel_rfl) (by kernel_rfl) (Wf.mk' (by kernel_rfl) (UAll.cons ust_raw (UAll.cons ust_raw (UAll.cons ust_raw (UAll.cons ust_raw (UAll.nil))))) (by kernel_rfl) (by kernel_rfl)) hO hA ?_ ?_
            · exact
                OblsR.cons (OblR.plain rfl rfl rfl rfl fun A' R' w' ho hd => by have a0 : R' 8 = u25 := (ho.old 8 rfl).trans h8; exact of_move a0) <|
                OblsR.cons (OblR.plain rfl rfl rfl rfl fun A' R' w' ho hd => by have a0 : R' 10 = .int .i64 x51.1 := (ho.old 10 rfl).trans h10; exact of_move a0) <|
                OblsR.cons (OblR.took 1 _ _ rfl rfl rfl rfl rfl fun A' R' w' ho hd u hok hav hin hop hds => by have a0 : R' 53 = u25 := hd 0 _ _ _ rfl rfl rfl rfl rfl; have a1 : R' 54 = .int .i64 x51.1 := hd 1 _ _ _ rfl rfl rfl rfl rfl; have hu0 : evalR R' (.tmp 53) = u := a0.trans (hin _ rfl).symm; exact took_call Try.call22 hav (fun _ _ _ _ _ h => h) (by simp only [List.map, hu0]; exact Calls.mono (M_laws_markStringS_ok (q60 rfl) (ho.av.sub _) (fun b o h => h.2) (Vec.flat hok (fun _ _ _ _ _ h => h)) a1) (fun _ _ ⟨v, h1, h2, h3, h4⟩ => ⟨v, h1, h2, h3, h4⟩))) <|
                OblsR.cons (OblR.plain rfl rfl rfl rfl fun A' R' w' ho hd => by have a0 : R' 55 = .int .i64 x59.1 := hd 0 _ _ _ rfl rfl rfl rfl rfl; exact of_assign a0) <|
                OblsR.nil
            intro done ρ σ A R w hdn hI
            replace h1 : R 1 = v1 := (hI.reg rfl).trans h1
            replace h2 : R 2 = (.pointer (some ⟨b2_0, 0, none⟩)) := (hI.reg rfl).trans h2
            replace h6 : R 6 = u14 := (hI.reg rfl).trans h6
            replace h9 : R 9 = u33 := (hI.reg rfl).trans h9
            have z61 := hI.inivR 0 rfl
            have z62 := hI.inivR 1 rfl
            have z63 := (hI.opnR hdn 5 2 rfl rfl rfl rfl rfl).trans z62
            have z64 := hI.inivR 2 rfl
            have h10 : R 10 = .int .i64 x59.1 := hI.fact hdn (i := 3) rfl rfl rfl
            replace f_u14 := f_u14.stp hI.stp
            replace f_v1 := f_v1.stp hI.stp
            replace hAA := hI.low' hAA hA0 (hO.ge (⟨rfl, ⟨rfl, ⟨rfl, trivial⟩⟩⟩))
            replace hF : Fr w0 w := hF.tr hI.ch (hO.ge (⟨rfl, ⟨rfl, ⟨rfl, trivial⟩⟩⟩))
            replace hO : IniOK [ob (.pointer (some ⟨b2_0, 0, none⟩)) (.box w0.heap.size 44 E_laws_SetIndex p0), ob u33 (.vec w0.heap.size 3 (eInt .i64) x28)] A w := hI.left hdn [(0, ob (.pointer (some ⟨b2_0, 0, none⟩)) (.box w0.heap.size 44 E_laws_SetIndex p0)), (2, ob u33 (.vec w0.heap.size 3 (eInt .i64) x28))] ⟨rfl, rfl, z61, rfl, rfl, ⟨rfl, rfl, z64, rfl, rfl, trivial⟩⟩
            replace hA := hI.avok
            clear hI
            refine HT.seq ?_
            refine HT.seq ?_
            obtain ⟨x65, q66, hr⟩ := cl_some hr
            obtain ⟨x67, q68, hr⟩ := bd_some hr
            refine HT.text (l := ⟨_, true, .raw (.int .i64 x59.1)⟩ :: ⟨_, true, .raw (.bool (decide (x59.1 < (0 : Int))))⟩ :: ⟨_, true, .raw (.bool (decide (x59.1 < (0 : Int))))⟩ :: ⟨_, (true && ((decide (x59.1 < (0 : Int))) == false)), .raw u33⟩ :: ⟨_, (true && ((decide (x59.1 < (0 : Int))) == false)), .raw u14⟩ :: ⟨_, (true && ((decide (x59.1 < (0 : Int))) == false)), .raw (.bool x65)⟩ :: ⟨_, (true && ((decide (x59.1 < (0 : Int))) == false)), .raw (.bool (!x65))⟩ :: ⟨_, true, .raw (.bool x67)⟩ :: []) (tl := []) (by kernel_rfl) (by kernel_rfl) (by kernel_rfl) ?_ ?_
            · exact
                Obls.cons (Obl.plain rfl rfl fun R' w' hw hs hd => by have a0 : R' 10 = .int .i64 x59.1 := (hs 10 rfl).trans h10; exact of_move a0) <|
                Obls.cons (Obl.plain rfl rfl fun R' w' hw hs hd => by have a0 : R' 56 = .int .i64 x59.1 := hd 0 _ _ _ rfl rfl rfl rfl rfl; exact of_lss a0 rfl) <|
                Obls.cons (Obl.plain rfl rfl fun R' w' hw hs hd => by have a0 : R' 57 = .bool (decide (x59.1 < (0 : Int))) := hd 0 _ _ _ rfl rfl rfl rfl rfl; exact of_move a0) <|
                Obls.cons (Obl.grd 2 false _ _ _ rfl rfl rfl rfl rfl (by kernel_rfl) fun hg R' w' hw hs hd => by have a0 : R' 9 = u33 := (hs 9 rfl).trans h9; exact of_move a0) <|
                Obls.cons (Obl.grd 2 false _ _ _ rfl rfl rfl rfl rfl (by kernel_rfl) fun hg R' w' hw hs hd => by have a0 : R' 6 = u14 := (hs 6 rfl).trans h6; exact of_move a0) <|
                Obls.cons (Obl.grd 2 false _ _ _ rfl rfl rfl rfl rfl (by kernel_rfl) fun hg R' w' hw hs hd => by have a0 : R' 59 = u33 := hd 0 _ _ _ rfl rfl rfl rfl hg; have ra0 := (vec_rep ((hO.fr hw).ok 1 _ rfl).1 hAA hA0).eq a0; have a1 : R' 60 = u14 := hd 1 _ _ _ rfl rfl rfl rfl hg; have ra1 := (f_u14.fr hw).eq a1; exact of_call Try.call48 (M_laws_eqIntS_ok (q66 hg) (hA00.fr ((Nat.le_trans hF.size hw.size))) ra0 (ra1.down hAA))) <|
                Obls.cons (Obl.grd 2 false _ _ _ rfl rfl rfl rfl rfl (by kernel_rfl) fun hg R' w' hw hs hd => by have a0 : R' 61 = .bool x65 := hd 0 _ _ _ rfl rfl rfl rfl hg; exact of_not a0) <|
                Obls.cons (Obl.plain rfl rfl fun R' w' hw hs hd => by have a0 : R' 58 = .bool (decide (x59.1 < (0 : Int))) := hd 0 _ _ _ rfl rfl rfl rfl rfl; exact of_pick (decide (x59.1 < (0 : Int))) a0 (fun hc => by show _ = Value.bool x67; rw [q68, hc]; exact rfl) (fun hc => by have a2 : R' 62 = .bool (!x65) := hd 1 _ _ _ rfl rfl rfl rfl (g_and rfl (beq_of hc)); show _ = Value.bool x67; rw [q68, hc]; exact a2)) <|
                Obls.nil
            intro R w hw hs hF'
            replace h1 : R 1 = v1 := (hs 1 rfl).trans h1
            replace h2 : R 2 = (.pointer (some ⟨b2_0, 0, none⟩)) := (hs 2 rfl).trans h2
            replace h6 : R 6 = u14 := (hs 6 rfl).trans h6
            replace h9 : R 9 = u33 := (hs 9 rfl).trans h9
            have h63 : R 63 = .bool x67 := hF' 7 _ _ rfl rfl rfl
            replace f_u14 := f_u14.fr hw
            replace f_v1 := f_v1.fr hw
            replace hO := hO.fr hw
            replace hA := hA.fr hw.size
            replace hF := hF.trans hw
            clear hs hF' hw
            refine seqR_nil ?_
            refine HT.cond x67 h63 (fun c69 => ?_) (fun c69 => ?_)
            · have hr := cnd_t c69 hr
              refine HT.seq ?_
              refine HT.text (l := ⟨_, true, .raw (.bool false)⟩ :: []) (tl := []) (by kernel_rfl) (by kernel_rfl) (by kernel_rfl) ?_ ?_
              · exact
                  Obls.cons (Obl.plain rfl rfl fun R' w' hw hs hd => by exact of_assign rfl) <|
                  Obls.nil
              intro R w hw hs hF'
              have h4 : R 4 = .bool false := hF' 0 _ _ rfl rfl rfl
              replace hO := hO.fr hw
              replace hO : IniOK [] A w := hO.sub [] trivial
              replace hA := hA.fr hw.size
              replace hF := hF.trans hw
              clear hs hF' hw
              refine seqR_nil ?_
              refine HT.ret ?_
              obtain rfl := Option.some.inj hr
              exact ⟨.inr rfl, [R 4], ⟨rfl, trivial⟩, h4, hF⟩
            · have hr := cnd_f c69 hr
              refine HT.skip ?_
              refine HT.seq ?_
              refine HT.text (l := ⟨_, true, .raw (.int .i64 (1 : Int))⟩ :: []) (tl := []) (by kernel_rfl) (by kernel_rfl) (by kernel_rfl) ?_ ?_
              · exact
                  Obls.cons (Obl.plain rfl rfl fun R' w' hw hs hd => by exact of_assign rfl) <|
                  Obls.nil
              intro R w hw hs hF'
              replace h1 : R 1 = v1 := (hs 1 rfl).trans h1
              replace h2 : R 2 = (.pointer (some ⟨b2_0, 0, none⟩)) := (hs 2 rfl).trans h2
              replace h6 : R 6 = u14 := (hs 6 rfl).trans h6
              replace h9 : R 9 = u33 := (hs 9 rfl).trans h9
              have h11 : R 11 = .int .i64 (1 : Int) := hF' 0 _ _ rfl rfl rfl
              replace f_u14 := f_u14.fr hw
              replace f_v1 := f_v1.fr hw
              replace hO := hO.fr hw
              replace hA := hA.fr hw.size
              replace hF := hF.trans hw
              clear hs hF' hw
              refine seqR_nil ?_
              refine HT.seq ?_
              obtain ⟨x70, q71, hr⟩ := cl_some hr
              refine HT.textR [ob (.pointer (some ⟨b2_0, 0, none⟩)) (.box w0.heap.size 44 E_laws_SetIndex p0), ob u33 (.vec w0.heap.size 3 (eInt .i64) x28)] (⟨_, true, [], none, true, fun A => .raw u33⟩ :: ⟨_, true, [], none, true, fun A => .raw (.int .i64 (1 : Int))⟩ :: ⟨_, true, [1], some (.vec w0.heap.size 3 (eInt .i64) x70.2), false, fun A => .raw (.int .i64 x70.1)⟩ :: ⟨_, true, [], none, true, fun A => .raw (.int .i64 x70.1)⟩ :: []) (by kernel_rfl) (by kernel_rfl) (Wf.mk' (by kernel_rfl) (UAll.cons ust_raw (UAll.cons ust_raw (UAll.cons ust_raw (UAll.cons ust_raw (UAll.nil))))) (by kernel_rfl) (by kernel_rfl)) hO hA ?_ ?_
              · exact
                  OblsR.cons (OblR.plain rfl rfl rfl rfl fun A' R' w' ho hd => by have a0 : R' 9 = u33 := (ho.old 9 rfl).trans h9; exact of_move a0) <|
                  OblsR.cons (OblR.plain rfl rfl rfl rfl fun A' R' w' ho hd => by have a0 : R' 11 = .int .i64 (1 : Int) := (ho.old 11 rfl).trans h11; exact of_move a0) <|
                  OblsR.cons (OblR.took 1 _ _ rfl rfl rfl rfl rfl fun A' R' w' ho hd u hok hav hin hop hds => by have a0 : R' 64 = u33 := hd 0 _ _ _ rfl rfl rfl rfl rfl; have a1 : R' 65 = .int .i64 (1 : Int) := hd 1 _ _ _ rfl rfl rfl rfl rfl; have hu0 : evalR R' (.tmp 64) = u := a0.trans (hin _ rfl).symm; exact took_call Try.call49 hav (fun _ _ _ _ _ h => h) (by simp only [List.map, hu0]; exact Calls.mono (M_laws_markIntS_ok (q71 rfl) (ho.av.sub _) (fun b o h => h.2) (Vec.flat hok (fun _ _ _ _ _ h => h)) a1) (fun _ _ ⟨v, h1, h2, h3, h4⟩ => ⟨v, h1, h2, h3, h4⟩))) <|
                  OblsR.cons (OblR.plain rfl rfl rfl rfl fun A' R' w' ho hd => by have a0 : R' 66 = .int .i64 x70.1 := hd 0 _ _ _ rfl rfl rfl rfl rfl; exact of_assign a0) <|
                  OblsR.nil
              intro done ρ σ A R w hdn hI
              replace h1 : R 1 = v1 := (hI.reg rfl).trans h1
              replace h2 : R 2 = (.pointer (some ⟨b2_0, 0, none⟩)) := (hI.reg rfl).trans h2
              replace h6 : R 6 = u14 := (hI.reg rfl).trans h6
              replace h9 : R 9 = u33 := (hI.reg rfl).trans h9
              have z72 := hI.inivR 0 rfl
              have z73 := hI.inivR 1 rfl
              have z74 := (hI.opnR hdn 4 2 rfl rfl rfl rfl rfl).trans z73
              have h11 : R 11 = .int .i64 x70.1 := hI.fact hdn (i := 3) rfl rfl rfl
              replace f_u14 := f_u14.stp hI.stp
              replace f_v1 := f_v1.stp hI.stp
              replace hAA := hI.low' hAA hA0 (hO.ge (⟨rfl, ⟨rfl, trivial⟩⟩))
              replace hF : Fr w0 w := hF.tr hI.ch (hO.ge (⟨rfl, ⟨rfl, trivial⟩⟩))
              replace hO : IniOK [ob (.pointer (some ⟨b2_0, 0, none⟩)) (.box w0.heap.size 44 E_laws_SetIndex p0), ob u33 (.vec w0.heap.size 3 (eInt .i64) x70.2)] A w := hI.left hdn [(0, ob (.pointer (some ⟨b2_0, 0, none⟩)) (.box w0.heap.size 44 E_laws_SetIndex p0)), (4, ob u33 (.vec w0.heap.size 3 (eInt .i64) x70.2))] ⟨rfl, rfl, z72, rfl, rfl, ⟨rfl, rfl, z74, rfl, rfl, trivial⟩⟩
              replace hA := hI.avok
              clear hI
              refine HT.seq ?_
              refine HT.text (l := ⟨_, true, .raw (.int .i64 (1 : Int))⟩ :: []) (tl := []) (by kernel_rfl) (by kernel_rfl) (by kernel_rfl) ?_ ?_
              · exact
                  Obls.cons (Obl.plain rfl rfl fun R' w' hw hs hd => by exact of_assign rfl) <|
                  Obls.nil
              intro R w hw hs hF'
              replace h1 : R 1 = v1 := (hs 1 rfl).trans h1
              replace h2 : R 2 = (.pointer (some ⟨b2_0, 0, none⟩)) := (hs 2 rfl).trans h2
              replace h6 : R 6 = u14 := (hs 6 rfl).trans h6
              replace h9 : R 9 = u33 := (hs 9 rfl).trans h9
              replace h11 : R 11 = .int .i64 x70.1 := (hs 11 rfl).trans h11
              have h12 : R 12 = .int .i64 (1 : Int) := hF' 0 _ _ rfl rfl rfl
              replace f_u14 := f_u14.fr hw
              replace f_v1 := f_v1.fr hw
              replace hO := hO.fr hw
              replace hA := hA.fr hw.size
              replace hF := hF.trans hw
              clear hs hF' hw
              refine seqR_nil ?_
              refine HT.seq ?_
              obtain ⟨x75, q76, hr⟩ := cl_some hr
              refine HT.text (l := ⟨_, true, .raw u33⟩ :: ⟨_, true, .raw (.int .i64 (1 : Int))⟩ :: ⟨_, true, .raw (.int .i64 x75)⟩ :: ⟨_, true, .raw (.int .i64 x75)⟩ :: []) (tl := []) (by kernel_rfl) (by kernel_rfl) (by kernel_rfl) ?_ ?_
              · exact
                  Obls.cons (Obl.plain rfl rfl fun R' w' hw hs hd => by have a0 : R' 9 = u33 := (hs 9 rfl).trans h9; exact of_move a0) <|
                  Obls.cons (Obl.plain rfl rfl fun R' w' hw hs hd => by have a0 : R' 12 = .int .i64 (1 : Int) := (hs 12 rfl).trans h12; exact of_move a0) <|
                  Obls.cons (Obl.plain rfl rfl fun R' w' hw hs hd => by have a0 : R' 67 = u33 := hd 0 _ _ _ rfl rfl rfl rfl rfl; have ra0 := (vec_rep ((hO.fr hw).ok 1 _ rfl).1 hAA hA0).eq a0; have a1 : R' 68 = .int .i64 (1 : Int) := hd 1 _ _ _ rfl rfl rfl rfl rfl; exact of_call Try.call50 (M_laws_heldIntS_ok (q76 rfl) (hA00.fr ((Nat.le_trans hF.size hw.size))) ra0 a1)) <|
                  Obls.cons (Obl.plain rfl rfl fun R' w' hw hs hd => by have a0 : R' 69 = .int .i64 x75 := hd 0 _ _ _ rfl rfl rfl rfl rfl; exact of_assign a0) <|
                  Obls.nil
              intro R w hw hs hF'
              replace h1 : R 1 = v1 := (hs 1 rfl).trans h1
              replace h2 : R 2 = (.pointer (some ⟨b2_0, 0, none⟩)) := (hs 2 rfl).trans h2
              replace h6 : R 6 = u14 := (hs 6 rfl).trans h6
              replace h9 : R 9 = u33 := (hs 9 rfl).trans h9
              replace h11 : R 11 = .int .i64 x70.1 := (hs 11 rfl).trans h11
              have h12 : R 12 = .int .i64 x75 := hF' 3 _ _ rfl rfl rfl
              replace f_u14 := f_u14.fr hw
              replace f_v1 := f_v1.fr hw
              replace hO := hO.fr hw
              replace hA := hA.fr hw.size
              replace hF := hF.trans hw
              clear hs hF' hw
              refine seqR_nil ?_
              refine HT.seq ?_
              refine HT.seq ?_
              refine HT.text (l := ⟨_, true, .raw (.int .i64 x75)⟩ :: ⟨_, true, .raw (.bool (decide (x75 < (0 : Int))))⟩ :: []) (tl := []) (by kernel_rfl) (by kernel_rfl) (by kernel_rfl) ?_ ?_
              · exact
                  Obls.cons (Obl.plain rfl rfl fun R' w' hw hs hd => by have a0 : R' 12 = .int .i64 x75 := (hs 12 rfl).trans h12; exact of_move a0) <|
                  Obls.cons (Obl.plain rfl rfl fun R' w' hw hs hd => by have a0 : R' 70 = .int .i64 x75 := hd 0 _ _ _ rfl rfl rfl rfl rfl; exact of_lss a0 rfl) <|
                  Obls.nil
              intro R w hw hs hF'
              replace h1 : R 1 = v1 := (hs 1 rfl).trans h1
              replace h2 : R 2 = (.pointer (some ⟨b2_0, 0, none⟩)) := (hs 2 rfl).trans h2
              replace h6 : R 6 = u14 := (hs 6 rfl).trans h6
              replace h9 : R 9 = u33 := (hs 9 rfl).trans h9
              replace h11 : R 11 = .int .i64 x70.1 := (hs 11 rfl).trans h11
              replace h12 : R 12 = .int .i64 x75 := (hs 12 rfl).trans h12
              have h71 : R 71 = .bool (decide (x75 < (0 : Int))) := hF' 1 _ _ rfl rfl rfl
              replace f_u14 := f_u14.fr hw
              replace f_v1 := f_v1.fr hw
              replace hO := hO.fr hw
              replace hA := hA.fr hw.size
              replace hF := hF.trans hw
              clear hs hF' hw
              refine seqR_nil ?_
              refine HT.cond (decide (x75 < (0 : Int))) h71 (fun c77 => ?_) (fun c77 => ?_)
              · have hr := cnd_t c77 hr
                refine HT.seq ?_
                refine HT.text (l := ⟨_, true, .raw (.bool false)⟩ :: []) (tl := []) (by kernel_rfl) (by kernel_rfl) (by kernel_rfl) ?_ ?_
                · exact
                    Obls.cons (Obl.plain rfl rfl fun R' w' hw hs hd => by exact of_assign rfl) <|
                    Obls.nil
                intro R w hw hs hF'
                have h4 : R 4 = .bool false := hF' 0 _ _ rfl rfl rfl
                replace hO := hO.fr hw
                replace hO : IniOK [] A w := hO.sub [] trivial
                replace hA := hA.fr hw.size
                replace hF := hF.trans hw
                clear hs hF' hw
                refine seqR_nil ?_
                refine HT.ret ?_
                obtain rfl := Option.some.inj hr
                exact ⟨.inr rfl, [R 4], ⟨rfl, trivial⟩, h4, hF⟩
              · have hr := cnd_f c77 hr
                refine HT.skip ?_
                refine HT.seq ?_
                refine HT.seq ?_
                refine HT.text (l := ⟨_, true, .raw (.int .i64 x75)⟩ :: ⟨_, true, .raw (.int .i64 x70.1)⟩ :: ⟨_, true, .raw (.bool (x75 != x70.1))⟩ :: []) (tl := []) (by kernel_rfl) (by kernel_rfl) (by kernel_rfl) ?_ ?_
                · exact
                    Obls.cons (Obl.plain rfl rfl fun R' w' hw hs hd => by have a0 : R' 12 = .int .i64 x75 := (hs 12 rfl).trans h12; exact of_move a0) <|
                    Obls.cons (Obl.plain rfl rfl fun R' w' hw hs hd => by have a0 : R' 11 = .int .i64 x70.1 := (hs 11 rfl).trans h11; exact of_move a0) <|
                    Obls.cons (Obl.plain rfl rfl fun R' w' hw hs hd => by have a0 : R' 72 = .int .i64 x75 := hd 0 _ _ _ rfl rfl rfl rfl rfl; have a1 : R' 73 = .int .i64 x70.1 := hd 1 _ _ _ rfl rfl rfl rfl rfl; exact of_neq a0 a1) <|
                    Obls.nil
                intro R w hw hs hF'
                replace h1 : R 1 = v1 := (hs 1 rfl).trans h1
                replace h2 : R 2 = (.pointer (some ⟨b2_0, 0, none⟩)) := (hs 2 rfl).trans h2
                replace h6 : R 6 = u14 := (hs 6 rfl).trans h6
                replace h9 : R 9 = u33 := (hs 9 rfl).trans h9
                replace h11 : R 11 = .int .i64 x70.1 := (hs 11 rfl).trans h11
                have h74 : R 74 = .bool (x75 != x70.1) := hF' 2 _ _ rfl rfl rfl
                replace f_u14 := f_u14.fr hw
                replace f_v1 := f_v1.fr hw
                replace hO := hO.fr hw
                replace hA := hA.fr hw.size
                replace hF := hF.trans hw
                clear hs hF' hw
                refine seqR_nil ?_
                refine HT.cond (x75 != x70.1) h74 (fun c78 => ?_) (fun c78 => ?_)
                · have hr := cnd_t c78 hr
                  refine HT.seq ?_
                  refine HT.text (l := ⟨_, true, .raw (.bool false)⟩ :: []) (tl := []) (by kernel_rfl) (by kernel_rfl) (by kernel_rfl) ?_ ?_
                  · exact
                      Obls.cons (Obl.plain rfl rfl fun R' w' hw hs hd => by exact of_assign rfl) <|
                      Obls.nil
                  intro R w hw hs hF'
                  have h4 : R 4 = .bool false := hF' 0 _ _ rfl rfl rfl
                  replace hO := hO.fr hw
                  replace hO : IniOK [] A w := hO.sub [] trivial
                  replace hA := hA.fr hw.size
                  replace hF := hF.trans hw
                  clear hs hF' hw
                  refine seqR_nil ?_
                  refine HT.ret ?_
                  obtain rfl := Option.some.inj hr
                  exact ⟨.inr rfl, [R 4], ⟨rfl, trivial⟩, h4, hF⟩
                · have hr := cnd_f c78 hr
                  refine HT.skip ?_
                  refine HT.seq ?_
                  obtain ⟨x79, q80, hr⟩ := cl_some hr
                  obtain ⟨x81, q82, hr⟩ := cl_some hr
                  obtain ⟨x83, q84, hr⟩ := cl_some hr
                  refine HT.text (l := ⟨_, true, .rep E_laws_SetIndex A p0⟩ :: ⟨_, true, .rep E_impl_SetIndex A x79⟩ :: ⟨_, true, .raw v1⟩ :: ⟨_, true, .rep (eSl eStr) A x81⟩ :: ⟨_, true, .rep (eSl (eInt .i64)) A x83⟩ :: ⟨_, true, .rep (eSl (eInt .i64)) A x83⟩ :: []) (tl := []) (by kernel_rfl) (by kernel_rfl) (by kernel_rfl) ?_ ?_
                  · exact
                      Obls.cons (Obl.plain rfl rfl fun R' w' hw hs hd => by have a0 : R' 2 = (.pointer (some ⟨b2_0, 0, none⟩)) := (hs 2 rfl).trans h2; exact (of_load_box ((hO.fr hw).ok 0 _ rfl).1 a0 (Fld.id _) rfl Try.isAgg44 Try.sizeOf44)) <|
                      Obls.cons (Obl.plain rfl rfl fun R' w' hw hs hd => by have a0 : Rep E_laws_SetIndex A w' (R' 75) p0 := hd 0 _ _ _ rfl rfl rfl rfl rfl; exact of_call Try.call35 (M_laws_toSetIndex_okR (q80 rfl) (hA.fr hw.size) a0)) <|
                      Obls.cons (Obl.plain rfl rfl fun R' w' hw hs hd => by have a0 : R' 1 = v1 := (hs 1 rfl).trans h1; exact of_move a0) <|
                      Obls.cons (Obl.plain rfl rfl fun R' w' hw hs hd => by have a0 : R' 77 = v1 := hd 0 _ _ _ rfl rfl rfl rfl rfl; have ra0 := (f_v1.fr hw).eq a0; exact of_call Try.call17 (M_laws_toStringS_okR (q82 rfl) (hA.fr hw.size) ra0)) <|
                      Obls.cons (Obl.plain rfl rfl fun R' w' hw hs hd => by have a0 : Rep E_impl_SetIndex A w' (R' 76) x79 := hd 0 _ _ _ rfl rfl rfl rfl rfl; have a1 : Rep (eSl eStr) A w' (R' 78) x81 := hd 1 _ _ _ rfl rfl rfl rfl rfl; exact of_call Try.call47 (M_impl_SearchSets_okR (q84 rfl) (hA.fr hw.size) a0 a1)) <|
                      Obls.cons (Obl.plain rfl rfl fun R' w' hw hs hd => by have a0 : Rep (eSl (eInt .i64)) A w' (R' 79) x83 := hd 0 _ _ _ rfl rfl rfl rfl rfl; exact of_assign a0) <|
                      Obls.nil
                  intro R w hw hs hF'
                  replace h6 : R 6 = u14 := (hs 6 rfl).trans h6
                  replace h9 : R 9 = u33 := (hs 9 rfl).trans h9
                  replace h11 : R 11 = .int .i64 x70.1 := (hs 11 rfl).trans h11
                  obtain ⟨u85, h13, f_u85⟩ : ∃ u, R 13 = u ∧ Rep (eSl (eInt .i64)) A w u x83 := ⟨_, rfl, hF' 5 _ _ rfl rfl rfl⟩
                  replace f_u14 := f_u14.fr hw
                  replace hO := hO.fr hw
                  replace hO : IniOK [ob u33 (.vec w0.heap.size 3 (eInt .i64) x70.2)] A w := hO.sub [(1, ob u33 (.vec w0.heap.size 3 (eInt .i64) x70.2))] ⟨rfl, rfl, trivial⟩
                  replace hA := hA.fr hw.size
                  replace hF := hF.trans hw
                  clear hs hF' hw
                  refine seqR_nil ?_
                  refine HT.seq ?_
                  refine HT.seq ?_
                  obtain ⟨x86, q87, hr⟩ := cl_some hr
                  refine HT.text (l := ⟨_, true, .raw u85⟩ :: ⟨_, true, .raw u14⟩ :: ⟨_, true, .raw (.bool x86)⟩ :: ⟨_, true, .raw (.bool (!x86))⟩ :: []) (tl := []) (by kernel_rfl) (by kernel_rfl) (by kernel_rfl) ?_ ?_
                  · exact
                      Obls.cons (Obl.plain rfl rfl fun R' w' hw hs hd => by have a0 : R' 13 = u85 := (hs 13 rfl).trans h13; exact of_move a0) <|
                      Obls.cons (Obl.plain rfl rfl fun R' w' hw hs hd => by have a0 : R' 6 = u14 := (hs 6 rfl).trans h6; exact of_move a0) <|
                      Obls.cons (Obl.plain rfl rfl fun R' w' hw hs hd => by have a0 : R' 80 = u85 := hd 0 _ _ _ rfl rfl rfl rfl rfl; have ra0 := (f_u85.fr hw).eq a0; have a1 : R' 81 = u14 := hd 1 _ _ _ rfl rfl rfl rfl rfl; have ra1 := (f_u14.fr hw).eq a1; exact of_call Try.call48 (M_laws_eqIntS_ok (q87 rfl) (hA.fr hw.size) ra0 ra1)) <|
                      Obls.cons (Obl.plain rfl rfl fun R' w' hw hs hd => by have a0 : R' 82 = .bool x86 := hd 0 _ _ _ rfl rfl rfl rfl rfl; exact of_not a0) <|
                      Obls.nil
                  intro R w hw hs hF'
                  replace h9 : R 9 = u33 := (hs 9 rfl).trans h9
                  replace h11 : R 11 = .int .i64 x70.1 := (hs 11 rfl).trans h11
                  have h83 : R 83 = .bool (!x86) := hF' 3 _ _ rfl rfl rfl
                  replace hO := hO.fr hw
                  replace hA := hA.fr hw.size
                  replace hF := hF.trans hw
                  clear hs hF' hw
                  refine seqR_nil ?_
                  refine HT.cond (!x86) h83 (fun c88 => ?_) (fun c88 => ?_)
                  · have hr := cnd_t c88 hr
                    refine HT.seq ?_
                    refine HT.text (l := ⟨_, true, .raw (.bool false)⟩ :: []) (tl := []) (by kernel_rfl) (by kernel_rfl) (by kernel_rfl) ?_ ?_
                    · exact
                        Obls.cons (Obl.plain rfl rfl fun R' w' hw hs hd => by exact of_assign rfl) <|
                        Obls.nil
                    intro R w hw hs hF'
                    have h4 : R 4 = .bool false := hF' 0 _ _ rfl rfl rfl
                    replace hO := hO.fr hw
                    replace hO : IniOK [] A w := hO.sub [] trivial
                    replace hA := hA.fr hw.size
                    replace hF := hF.trans hw
                    clear hs hF' hw
                    refine seqR_nil ?_
                    refine HT.ret ?_
                    obtain rfl := Option.some.inj hr
                    exact ⟨.inr rfl, [R 4], ⟨rfl, trivial⟩, h4, hF⟩
                  · have hr := cnd_f c88 hr
                    refine HT.skip ?_
                    refine HT.seq ?_
                    refine HT.text (l := ⟨_, true, .raw (.int .i64 (1 : Int))⟩ :: []) (tl := []) (by kernel_rfl) (by kernel_rfl) (by kernel_rfl) ?_ ?_
                    · exact
                        Obls.cons (Obl.plain rfl rfl fun R' w' hw hs hd => by exact of_assign rfl) <|
                        Obls.nil
                    intro R w hw hs hF'
                    replace h9 : R 9 = u33 := (hs 9 rfl).trans h9
                    replace h11 : R 11 = .int .i64 x70.1 := (hs 11 rfl).trans h11
                    have h12 : R 12 = .int .i64 (1 : Int) := hF' 0 _ _ rfl rfl rfl
                    replace hO := hO.fr hw
                    replace hA := hA.fr hw.size
                    replace hF := hF.trans hw
                    clear hs hF' hw
                    refine seqR_nil ?_
                    refine HT.seq ?_
                    obtain ⟨x89, q90, hr⟩ := cl_some hr
                    refine HT.text (l := ⟨_, true, .raw u33⟩ :: ⟨_, true, .raw (.int .i64 (1 : Int))⟩ :: ⟨_, true, .raw (.int .i64 x89)⟩ :: ⟨_, true, .raw (.int .i64 x89)⟩ :: []) (tl := []) (by kernel_rfl) (by kernel_rfl) (by kernel_rfl) ?_ ?_
                    · exact
                        Obls.cons (Obl.plain rfl rfl fun R' w' hw hs hd => by have a0 : R' 9 = u33 := (hs 9 rfl).trans h9; exact of_move a0) <|
                        Obls.cons (Obl.plain rfl rfl fun R' w' hw hs hd => by have a0 : R' 12 = .int .i64 (1 : Int) := (hs 12 rfl).trans h12; exact of_move a0) <|
                        Obls.cons (Obl.plain rfl rfl fun R' w' hw hs hd => by have a0 : R' 84 = u33 := hd 0 _ _ _ rfl rfl rfl rfl rfl; have ra0 := (vec_rep ((hO.fr hw).ok 0 _ rfl).1 hAA hA0).eq a0; have a1 : R' 85 = .int .i64 (1 : Int) := hd 1 _ _ _ rfl rfl rfl rfl rfl; exact of_call Try.call50 (M_laws_heldIntS_ok (q90 rfl) (hA00.fr ((Nat.le_trans hF.size hw.size))) ra0 a1)) <|
                        Obls.cons (Obl.plain rfl rfl fun R' w' hw hs hd => by have a0 : R' 86 = .int .i64 x89 := hd 0 _ _ _ rfl rfl rfl rfl rfl; exact of_assign a0) <|
                        Obls.nil
                    intro R w hw hs hF'
                    replace h11 : R 11 = .int .i64 x70.1 := (hs 11 rfl).trans h11
                    have h12 : R 12 = .int .i64 x89 := hF' 3 _ _ rfl rfl rfl
                    replace hO := hO.fr hw
                    replace hO : IniOK [] A w := hO.sub [] trivial
                    replace hA := hA.fr hw.size
                    replace hF := hF.trans hw
                    clear hs hF' hw
                    refine seqR_nil ?_
                    refine HT.seq ?_
                    refine HT.seq ?_
                    refine HT.text (l := ⟨_, true, .raw (.int .i64 x89)⟩ :: ⟨_, true, .raw (.bool (decide (x89 < (0 : Int))))⟩ :: []) (tl := []) (by kernel_rfl) (by kernel_rfl) (by kernel_rfl) ?_ ?_
                    · exact
                        Obls.cons (Obl.plain rfl rfl fun R' w' hw hs hd => by have a0 : R' 12 = .int .i64 x89 := (hs 12 rfl).trans h12; exact of_move a0) <|
                        Obls.cons (Obl.plain rfl rfl fun R' w' hw hs hd => by have a0 : R' 87 = .int .i64 x89 := hd 0 _ _ _ rfl rfl rfl rfl rfl; exact of_lss a0 rfl) <|
                        Obls.nil
                    intro R w hw hs hF'
                    replace h11 : R 11 = .int .i64 x70.1 := (hs 11 rfl).trans h11
                    replace h12 : R 12 = .int .i64 x89 := (hs 12 rfl).trans h12
                    have h88 : R 88 = .bool (decide (x89 < (0 : Int))) := hF' 1 _ _ rfl rfl rfl
                    replace hO := hO.fr hw
                    replace hA := hA.fr hw.size
                    replace hF := hF.trans hw
                    clear hs hF' hw
                    refine seqR_nil ?_
                    refine HT.cond (decide (x89 < (0 : Int))) h88 (fun c91 => ?_) (fun c91 => ?_)
                    · have hr := cnd_t c91 hr
                      refine HT.seq ?_
                      refine HT.text (l := ⟨_, true, .raw (.bool false)⟩ :: []) (tl := []) (by kernel_rfl) (by kernel_rfl) (by kernel_rfl) ?_ ?_
                      · exact
                          Obls.cons (Obl.plain rfl rfl fun R' w' hw hs hd => by exact of_assign rfl) <|
                          Obls.nil
                      intro R w hw hs hF'
                      have h4 : R 4 = .bool false := hF' 0 _ _ rfl rfl rfl
                      replace hO := hO.fr hw
                      replace hA := hA.fr hw.size
                      replace hF := hF.trans hw
                      clear hs hF' hw
                      refine seqR_nil ?_
                      refine HT.ret ?_
                      obtain rfl := Option.some.inj hr
                      exact ⟨.inr rfl, [R 4], ⟨rfl, trivial⟩, h4, hF⟩
                    · have hr := cnd_f c91 hr
                      refine HT.skip ?_
                      refine HT.seq ?_
                      refine HT.seq ?_
                      refine HT.text (l := ⟨_, true, .raw (.int .i64 x89)⟩ :: ⟨_, true, .raw (.int .i64 x70.1)⟩ :: ⟨_, true, .raw (.bool (x89 != x70.1))⟩ :: []) (tl := []) (by kernel_rfl) (by kernel_rfl) (by kernel_rfl) ?_ ?_
                      · exact
                          Obls.cons (Obl.plain rfl rfl fun R' w' hw hs hd => by have a0 : R' 12 = .int .i64 x89 := (hs 12 rfl).trans h12; exact of_move a0) <|
                          Obls.cons (Obl.plain rfl rfl fun R' w' hw hs hd => by have a0 : R' 11 = .int .i64 x70.1 := (hs 11 rfl).trans h11; exact of_move a0) <|
                          Obls.cons (Obl.plain rfl rfl fun R' w' hw hs hd => by have a0 : R' 89 = .int .i64 x89 := hd 0 _ _ _ rfl rfl rfl rfl rfl; have a1 : R' 90 = .int .i64 x70.1 := hd 1 _ _ _ rfl rfl rfl rfl rfl; exact of_neq a0 a1) <|
                          Obls.nil
                      intro R w hw hs hF'
                      have h91 : R 91 = .bool (x89 != x70.1) := hF' 2 _ _ rfl rfl rfl
                      replace hO := hO.fr hw
                      replace hA := hA.fr hw.size
                      replace hF := hF.trans hw
                      clear hs hF' hw
                      refine seqR_nil ?_
                      refine HT.cond (x89 != x70.1) h91 (fun c92 => ?_) (fun c92 => ?_)
                      · have hr := cnd_t c92 hr
                        refine HT.seq ?_
                        refine HT.text (l := ⟨_, true, .raw (.bool false)⟩ :: []) (tl := []) (by kernel_rfl) (by kernel_rfl) (by kernel_rfl) ?_ ?_
                        · exact
                            Obls.cons (Obl.plain rfl rfl fun R' w' hw hs hd => by exact of_assign rfl) <|
                            Obls.nil
                        intro R w hw hs hF'
                        have h4 : R 4 = .bool false := hF' 0 _ _ rfl rfl rfl
                        replace hO := hO.fr hw
                        replace hA := hA.fr hw.size
                        replace hF := hF.trans hw
                        clear hs hF' hw
                        refine seqR_nil ?_
                        refine HT.ret ?_
                        obtain rfl := Option.some.inj hr
                        exact ⟨.inr rfl, [R 4], ⟨rfl, trivial⟩, h4, hF⟩
                      · have hr := cnd_f c92 hr
                        refine HT.skip ?_
                        refine HT.seq ?_
                        refine HT.text (l := ⟨_, true, .raw (.bool true)⟩ :: []) (tl := []) (by kernel_rfl) (by kernel_rfl) (by kernel_rfl) ?_ ?_
                        · exact
                            Obls.cons (Obl.plain rfl rfl fun R' w' hw hs hd => by exact of_assign rfl) <|
                            Obls.nil
                        intro R w hw hs hF'
                        have h4 : R 4 = .bool true := hF' 0 _ _ rfl rfl rfl
                        replace hO := hO.fr hw
                        replace hA := hA.fr hw.size
                        replace hF := hF.trans hw
                        clear hs hF' hw
                        refine seqR_nil ?_
                        refine HT.ret ?_
                        obtain rfl := Option.some.inj hr
                        exact ⟨.inr rfl, [R 4], ⟨rfl, trivial⟩, h4, hF⟩
end Go.Proofs.Ytfcocbokgfmjfaa
