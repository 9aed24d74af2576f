/- Printed by dec.py: plain functions and the proofs that the code computes them. No statement of the seat is proved here. -/
import Derived.Test.YtfcocbokgfmjfaaSo
namespace Go.Proofs.Ytfcocbokgfmjfaa
open Go.RowKit
set_option linter.unusedVariables false
def M_laws_szTokenCount (fu : Nat) (p0 : T_impl_TokenCount) (p1 : Int) : Option Int :=
  ck (i64B (p1 - (p0.1.length : Int))) <|
  bif (decide ((p1 - (p0.1.length : Int)) < (0 : Int))) then (
    some (-1 : Int)
  ) else (
    some (p1 - (p0.1.length : Int))
  )
set_option maxRecDepth 100000 in
set_option maxHeartbeats 4000000 in
theorem M_laws_szTokenCount_ok {fu : Nat} {A0 : Av} {p0 : T_impl_TokenCount} {p1 : Int} {r : Int} (hr : M_laws_szTokenCount fu p0 p1 = some r) {w : World} {v0 : Value} {v1 : Value} (hA : AvOK A0 w) (h0 : Rep E_impl_TokenCount A0 w v0 p0) (h1 : v1 = .int .i64 p1) :
    Calls Try.prog 58 #[v0, v1] w fun e w' => ∃ v, e = .returned v ∧ (v = .int .i64 r ∧ Fr w w') := by
  unfold M_laws_szTokenCount at hr
  obtain ⟨w0, hw0⟩ : ∃ w0, w0 = w := ⟨_, rfl⟩
  have hF : Fr w0 w := hw0 ▸ Fr.refl _
  have hA0 : ∀ b o, A0 b o → b < w0.heap.size := fun b o h => hw0 ▸ hA b o h
  have hA00 : AvOK A0 w0 := hA0
  rw [show Fr w = Fr w0 from hw0 ▸ rfl]
  clear hw0
  obtain ⟨A, hAe⟩ : ∃ A, A = A0 := ⟨_, rfl⟩
  have hAA : ∀ b o, A0 b o → A b o := fun b o h => hAe ▸ h
  replace hA : AvOK A w := hAe ▸ hA
  have hO : IniOK [] A w := IniOK.nil
  refine calls_of_HT2 [.tmp 4] Try.func58 Try.ntmps58 (by decide) rfl rfl (Nat.le_of_ble_eq_true rfl) ?_
  intro R hR
  have f_v0 : Rep E_impl_TokenCount A w v0 p0 := hAe ▸ h0
  replace h0 : R 0 = v0 := hR 0 _ rfl
  replace h1 : R 1 = .int .i64 p1 := (hR 1 _ rfl).trans h1
  clear hR hAe
  refine HT.seq ?_
  refine HT.textR [] (⟨_, true, [], some (.box w0.heap.size 74 E_impl_TokenCount p0), true, fun A => .any⟩ :: ⟨_, true, [], none, true, fun A => .raw (.int .i64 (0 : Int))⟩ :: []) (by kernel_rfl) (by kernel_rfl) (Wf.mk' (by kernel_rfl) (UAll.cons ust_any (UAll.cons ust_raw (UAll.nil))) (by kernel_rfl) (by kernel_rfl)) hO hA ?_ ?_
  · exact
      OblsR.cons (OblR.made _ rfl rfl rfl rfl fun A' R' w' ho hd => by have a0 : R' 0 = v0 := (ho.old 0 rfl).trans h0; have ra0 := (f_v0.stp ho.stp).eq a0; exact made_box ra0 (Nat.le_trans hF.size ho.ch.size)) <|
      OblsR.cons (OblR.plain rfl rfl rfl rfl fun A' R' w' ho hd => by exact of_assign rfl) <|
      OblsR.nil
  intro done ρ σ A R w hdn hI
  replace h1 : R 1 = .int .i64 p1 := (hI.reg rfl).trans h1
  obtain ⟨b2_0, e_b2_0⟩ := hI.boxv hdn 0 rfl rfl
  have h2 : R 2 = (.pointer (some ⟨b2_0, 0, none⟩)) := (hI.opvR hdn 0 0 rfl rfl rfl rfl rfl).symm.trans e_b2_0
  replace hAA := hI.low' hAA hA0 (hO.ge (trivial))
  replace hF : Fr w0 w := hF.tr hI.ch (hO.ge (trivial))
  replace hO : IniOK [ob (.pointer (some ⟨b2_0, 0, none⟩)) (.box w0.heap.size 74 E_impl_TokenCount p0)] A w := hI.left hdn [(0, ob (.pointer (some ⟨b2_0, 0, none⟩)) (.box w0.heap.size 74 E_impl_TokenCount p0))] ⟨rfl, rfl, e_b2_0, rfl, rfl, trivial⟩
  replace hA := hI.avok
  clear hI
  refine HT.seq ?_
  obtain ⟨e2, hr⟩ := ck_some hr
  refine HT.text (l := ⟨_, true, .raw (.int .i64 p1)⟩ :: ⟨_, true, .raw (.pointer (some ⟨b2_0, 0, none⟩))⟩ :: ⟨_, true, .rep eStr A p0.1⟩ :: ⟨_, true, .raw (.int .i64 (p0.1.length : Int))⟩ :: ⟨_, true, .raw (.int .i64 (p1 - (p0.1.length : Int)))⟩ :: ⟨_, true, .raw (.int .i64 (p1 - (p0.1.length : Int)))⟩ :: []) (tl := []) (by kernel_rfl) (by kernel_rfl) (by kernel_rfl) ?_ ?_
  · exact
      Obls.cons (Obl.plain rfl rfl fun R' w' hw hs hd => by have a0 : R' 1 = .int .i64 p1 := (hs 1 rfl).trans h1; exact of_move a0) <|
      Obls.cons (Obl.plain rfl rfl fun R' w' hw hs hd => by have a0 : R' 2 = (.pointer (some ⟨b2_0, 0, none⟩)) := (hs 2 rfl).trans h2; exact of_fieldAddr_raw a0 ff_74_0 Try.sizeOf9 (by decide) rfl) <|
      Obls.cons (Obl.plain rfl rfl fun R' w' hw hs hd => by have a0 : R' 6 = (.pointer (some ⟨b2_0, 0, none⟩)) := hd 0 _ _ _ rfl rfl rfl rfl rfl; exact (of_load_box ((hO.fr hw).ok 0 _ rfl).1 a0 fl_impl_TokenCount_0 rfl Try.isAgg9 Try.sizeOf9)) <|
      Obls.cons (Obl.plain rfl rfl fun R' w' hw hs hd => by have a0 : Rep eStr A w' (R' 7) p0.1 := hd 0 _ _ _ rfl rfl rfl rfl rfl; exact of_len_str a0 Try.underlying9) <|
      Obls.cons (Obl.plain rfl rfl fun R' w' hw hs hd => by have a0 : R' 5 = .int .i64 p1 := hd 0 _ _ _ rfl rfl rfl rfl rfl; have a1 : R' 8 = .int .i64 (p0.1.length : Int) := hd 1 _ _ _ rfl rfl rfl rfl rfl; exact of_sub a0 a1 e2) <|
      Obls.cons (Obl.plain rfl rfl fun R' w' hw hs hd => by have a0 : R' 9 = .int .i64 (p1 - (p0.1.length : Int)) := hd 0 _ _ _ rfl rfl rfl rfl rfl; exact of_assign a0) <|
      Obls.nil
  intro R w hw hs hF'
  have h1 : R 1 = .int .i64 (p1 - (p0.1.length : Int)) := hF' 5 _ _ rfl rfl rfl
  replace hO := hO.fr hw
  replace hO : IniOK [] A w := hO.sub [] trivial
  replace hA := hA.fr hw.size
  replace hF := hF.trans hw
  clear hs hF' hw
  refine seqR_nil ?_
  refine HT.seq ?_
  refine HT.seq ?_
  refine HT.text (l := ⟨_, true, .raw (.int .i64 (p1 - (p0.1.length : Int)))⟩ :: ⟨_, true, .raw (.bool (decide ((p1 - (p0.1.length : Int)) < (0 : Int))))⟩ :: []) (tl := []) (by kernel_rfl) (by kernel_rfl) (by kernel_rfl) ?_ ?_
  · exact
      Obls.cons (Obl.plain rfl rfl fun R' w' hw hs hd => by have a0 : R' 1 = .int .i64 (p1 - (p0.1.length : Int)) := (hs 1 rfl).trans h1; exact of_move a0) <|
      Obls.cons (Obl.plain rfl rfl fun R' w' hw hs hd => by have a0 : R' 10 = .int .i64 (p1 - (p0.1.length : Int)) := hd 0 _ _ _ rfl rfl rfl rfl rfl; exact of_lss a0 rfl) <|
      Obls.nil
  intro R w hw hs hF'
  replace h1 : R 1 = .int .i64 (p1 - (p0.1.length : Int)) := (hs 1 rfl).trans h1
  have h11 : R 11 = .bool (decide ((p1 - (p0.1.length : Int)) < (0 : Int))) := hF' 1 _ _ rfl rfl rfl
  replace hO := hO.fr hw
  replace hA := hA.fr hw.size
  replace hF := hF.trans hw
  clear hs hF' hw
  refine seqR_nil ?_
  refine HT.cond (decide ((p1 - (p0.1.length : Int)) < (0 : Int))) h11 (fun c3 => ?_) (fun c3 => ?_)
  · have hr := cnd_t c3 hr
    refine HT.seq ?_
    refine HT.text (l := ⟨_, true, .raw (.int .i64 (-1 : Int))⟩ :: []) (tl := []) (by kernel_rfl) (by kernel_rfl) (by kernel_rfl) ?_ ?_
    · exact
        Obls.cons (Obl.plain rfl rfl fun R' w' hw hs hd => by exact of_assign rfl) <|
        Obls.nil
    intro R w hw hs hF'
    have h4 : R 4 = .int .i64 (-1 : Int) := hF' 0 _ _ rfl rfl rfl
    replace hO := hO.fr hw
    replace hA := hA.fr hw.size
    replace hF := hF.trans hw
    clear hs hF' hw
    refine seqR_nil ?_
    refine HT.ret ?_
    obtain rfl := Option.some.inj hr
    exact ⟨.inr rfl, [R 4], ⟨rfl, trivial⟩, h4, hF⟩
  · have hr := cnd_f c3 hr
    refine HT.skip ?_
    refine HT.seq ?_
    refine HT.text (l := ⟨_, true, .raw (.int .i64 (p1 - (p0.1.length : Int)))⟩ :: ⟨_, true, .raw (.int .i64 (p1 - (p0.1.length : Int)))⟩ :: []) (tl := []) (by kernel_rfl) (by kernel_rfl) (by kernel_rfl) ?_ ?_
    · exact
        Obls.cons (Obl.plain rfl rfl fun R' w' hw hs hd => by have a0 : R' 1 = .int .i64 (p1 - (p0.1.length : Int)) := (hs 1 rfl).trans h1; exact of_move a0) <|
        Obls.cons (Obl.plain rfl rfl fun R' w' hw hs hd => by have a0 : R' 12 = .int .i64 (p1 - (p0.1.length : Int)) := hd 0 _ _ _ rfl rfl rfl rfl rfl; exact of_assign a0) <|
        Obls.nil
    intro R w hw hs hF'
    have h4 : R 4 = .int .i64 (p1 - (p0.1.length : Int)) := hF' 1 _ _ rfl rfl rfl
    replace hO := hO.fr hw
    replace hA := hA.fr hw.size
    replace hF := hF.trans hw
    clear hs hF' hw
    refine seqR_nil ?_
    refine HT.ret ?_
    obtain rfl := Option.some.inj hr
    exact ⟨.inr rfl, [R 4], ⟨rfl, trivial⟩, h4, hF⟩
def M_laws_szTokenCountS_L0 (fu : Nat) (p0 : List T_impl_TokenCount) : Nat → Int → Int → Option (Ex Int Int)
  | 0, _, _ => none
  | k + 1, y6, y7 =>
    bif (decide (y7 < (p0.length : Int))) then (
      ck (inR y7 p0.length) <|
      cl true (M_laws_szTokenCount fu (gtD p0 y7) y6) fun x10 =>
      bif (decide (x10 < (0 : Int))) then (
        some (Ex.ret (-1 : Int))
      ) else (
        ck (i64B (y7 + (1 : Int))) <|
        M_laws_szTokenCountS_L0 fu p0 k x10 (y7 + (1 : Int))
      )
    ) else (
      some (Ex.go y6)
    )
def M_laws_szTokenCountS (fu : Nat) (p0 : List T_impl_TokenCount) (p1 : Int) : Option Int :=
  ck (i64B (p1 - (p0.length : Int))) <|
  bif (decide ((p1 - (p0.length : Int)) < (0 : Int))) then (
    some (-1 : Int)
  ) else (
    cl true (M_laws_szTokenCountS_L0 fu p0 fu (p1 - (p0.length : Int)) (0 : Int)) fun rl3 =>
    exM rl3 (fun r => some r) fun s5 =>
    some s5
  )
set_option maxRecDepth 100000 in
set_option maxHeartbeats 4000000 in
theorem M_laws_szTokenCountS_ok {fu : Nat} {A : Av} {p0 : List T_impl_TokenCount} {p1 : Int} {r : Int} (hr : M_laws_szTokenCountS fu p0 p1 = some r) {w : World} {v0 : Value} {v1 : Value} (hA : AvOK A w) (h0 : Rep (eSl E_impl_TokenCount) A w v0 p0) (h1 : v1 = .int .i64 p1) :
    Calls Try.prog 13 #[v0, v1] w fun e w' => ∃ v, e = .returned v ∧ (v = .int .i64 r ∧ Fr w w') := by
  unfold M_laws_szTokenCountS at hr
  obtain ⟨w0, hw0⟩ : ∃ w0, w0 = w := ⟨_, rfl⟩
  have hF : Fr w0 w := hw0 ▸ Fr.refl _
  rw [show Fr w = Fr w0 from hw0 ▸ rfl]
  clear hw0
  refine calls_of_HT2 [.tmp 4] Try.func13 Try.ntmps13 (by decide) rfl rfl (Nat.le_of_ble_eq_true rfl) ?_
  intro R hR
  have f_v0 := h0
  replace h0 : R 0 = v0 := hR 0 _ rfl
  replace h1 : R 1 = .int .i64 p1 := (hR 1 _ rfl).trans h1
  clear hR
  refine HT.seq ?_
  refine HT.text (l := ⟨_, true, .raw (.int .i64 (0 : Int))⟩ :: []) (tl := []) (by kernel_rfl) (by kernel_rfl) (by kernel_rfl) ?_ ?_
  · exact
      Obls.cons (Obl.plain rfl rfl fun R' w' hw hs hd => by exact of_assign rfl) <|
      Obls.nil
  intro R w hw hs hF'
  replace h0 : R 0 = v0 := (hs 0 rfl).trans h0
  replace h1 : R 1 = .int .i64 p1 := (hs 1 rfl).trans h1
  replace f_v0 := f_v0.fr hw
  replace hA := hA.fr hw.size
  replace hF := hF.trans hw
  clear hs hF' hw
  refine seqR_nil ?_
  refine HT.seq ?_
  obtain ⟨e1, hr⟩ := ck_some hr
  refine HT.text (l := ⟨_, true, .raw (.int .i64 p1)⟩ :: ⟨_, true, .raw v0⟩ :: ⟨_, true, .raw (.int .i64 (p0.length : Int))⟩ :: ⟨_, true, .raw (.int .i64 (p1 - (p0.length : Int)))⟩ :: ⟨_, true, .raw (.int .i64 (p1 - (p0.length : Int)))⟩ :: []) (tl := []) (by kernel_rfl) (by kernel_rfl) (by kernel_rfl) ?_ ?_
  · exact
      Obls.cons (Obl.plain rfl rfl fun R' w' hw hs hd => by have a0 : R' 1 = .int .i64 p1 := (hs 1 rfl).trans h1; exact of_move a0) <|
      Obls.cons (Obl.plain rfl rfl fun R' w' hw hs hd => by have a0 : R' 0 = v0 := (hs 0 rfl).trans h0; exact of_move a0) <|
      Obls.cons (Obl.plain rfl rfl fun R' w' hw hs hd => by have a0 : R' 7 = v0 := hd 0 _ _ _ rfl rfl rfl rfl rfl; have ra0 := (f_v0.fr hw).eq a0; exact of_len_sl (aT := #[]) ra0 Try.underlying22) <|
      Obls.cons (Obl.plain rfl rfl fun R' w' hw hs hd => by have a0 : R' 6 = .int .i64 p1 := hd 0 _ _ _ rfl rfl rfl rfl rfl; have a1 : R' 8 = .int .i64 (p0.length : Int) := hd 1 _ _ _ rfl rfl rfl rfl rfl; exact of_sub a0 a1 e1) <|
      Obls.cons (Obl.plain rfl rfl fun R' w' hw hs hd => by have a0 : R' 9 = .int .i64 (p1 - (p0.length : Int)) := hd 0 _ _ _ rfl rfl rfl rfl rfl; exact of_assign a0) <|
      Obls.nil
  intro R w hw hs hF'
  replace h0 : R 0 = v0 := (hs 0 rfl).trans h0
  have h1 : R 1 = .int .i64 (p1 - (p0.length : Int)) := hF' 4 _ _ rfl rfl rfl
  replace f_v0 := f_v0.fr hw
  replace hA := hA.fr hw.size
  replace hF := hF.trans hw
  clear hs hF' hw
  refine seqR_nil ?_
  refine HT.seq ?_
  refine HT.seq ?_
  refine HT.text (l := ⟨_, true, .raw (.int .i64 (p1 - (p0.length : Int)))⟩ :: ⟨_, true, .raw (.bool (decide ((p1 - (p0.length : Int)) < (0 : Int))))⟩ :: []) (tl := []) (by kernel_rfl) (by kernel_rfl) (by kernel_rfl) ?_ ?_
  · exact
      Obls.cons (Obl.plain rfl rfl fun R' w' hw hs hd => by have a0 : R' 1 = .int .i64 (p1 - (p0.length : Int)) := (hs 1 rfl).trans h1; exact of_move a0) <|
      Obls.cons (Obl.plain rfl rfl fun R' w' hw hs hd => by have a0 : R' 10 = .int .i64 (p1 - (p0.length : Int)) := hd 0 _ _ _ rfl rfl rfl rfl rfl; exact of_lss a0 rfl) <|
      Obls.nil
  intro R w hw hs hF'
  replace h0 : R 0 = v0 := (hs 0 rfl).trans h0
  replace h1 : R 1 = .int .i64 (p1 - (p0.length : Int)) := (hs 1 rfl).trans h1
  have h11 : R 11 = .bool (decide ((p1 - (p0.length : Int)) < (0 : Int))) := hF' 1 _ _ rfl rfl rfl
  replace f_v0 := f_v0.fr hw
  replace hA := hA.fr hw.size
  replace hF := hF.trans hw
  clear hs hF' hw
  refine seqR_nil ?_
  refine HT.cond (decide ((p1 - (p0.length : Int)) < (0 : Int))) h11 (fun c2 => ?_) (fun c2 => ?_)
  · have hr := cnd_t c2 hr
    refine HT.seq ?_
    refine HT.text (l := ⟨_, true, .raw (.int .i64 (-1 : Int))⟩ :: []) (tl := []) (by kernel_rfl) (by kernel_rfl) (by kernel_rfl) ?_ ?_
    · exact
        Obls.cons (Obl.plain rfl rfl fun R' w' hw hs hd => by exact of_assign rfl) <|
        Obls.nil
    intro R w hw hs hF'
    have h4 : R 4 = .int .i64 (-1 : Int) := hF' 0 _ _ rfl rfl rfl
    replace hA := hA.fr hw.size
    replace hF := hF.trans hw
    clear hs hF' hw
    refine seqR_nil ?_
    refine HT.ret ?_
    obtain rfl := Option.some.inj hr
    exact ⟨.inr rfl, [R 4], ⟨rfl, trivial⟩, h4, hF⟩
  · have hr := cnd_f c2 hr
    refine HT.skip ?_
    refine HT.seq ?_
    refine HT.seq ?_
    refine HT.text (l := ⟨_, true, .raw (.int .i64 (0 : Int))⟩ :: []) (tl := []) (by kernel_rfl) (by kernel_rfl) (by kernel_rfl) ?_ ?_
    · exact
        Obls.cons (Obl.plain rfl rfl fun R' w' hw hs hd => by exact of_assign rfl) <|
        Obls.nil
    intro R w hw hs hF'
    replace h0 : R 0 = v0 := (hs 0 rfl).trans h0
    replace h1 : R 1 = .int .i64 (p1 - (p0.length : Int)) := (hs 1 rfl).trans h1
    have h5 : R 5 = .int .i64 (0 : Int) := hF' 0 _ _ rfl rfl rfl
    replace f_v0 := f_v0.fr hw
    replace hA := hA.fr hw.size
    replace hF := hF.trans hw
    clear hs hF' hw
    refine seqR_nil ?_
    obtain ⟨rl3, q4, hr⟩ := cl_some hr
    replace q4 := q4 rfl
    refine HT.cut0 (fun R w => ∃ (s5 : Int), rl3 = Ex.go s5 ∧ AvOK A w ∧ Fr w0 w ∧ R 1 = .int .i64 s5) ?_ ?_
    · refine HT.block ?_
      refine HT.loop (fun k R w => ∃ (y6 : Int) (y7 : Int), M_laws_szTokenCountS_L0 fu p0 k y6 y7 = some rl3 ∧ AvOK A w ∧ Fr w0 w ∧ R 0 = v0 ∧ R 1 = .int .i64 y6 ∧ R 5 = .int .i64 y7 ∧ Rep (eSl E_impl_TokenCount) A w v0 p0) fu ⟨_, _, q4, hA, hF, h0, h1, h5, f_v0⟩ ?_
      have hr0 := hr; clear hr q4
      rintro k R w ⟨y6, y7, hr, hA, hF, h0, h1, h5, f_v0⟩
      rcases k with _ | k
      · cases (show none = some _ from hr)
      rw [M_laws_szTokenCountS_L0] at hr
      refine HT.seq ?_
      refine HT.seq ?_
      refine HT.text (l := ⟨_, true, .raw (.int .i64 y7)⟩ :: ⟨_, true, .raw v0⟩ :: ⟨_, true, .raw (.int .i64 (p0.length : Int))⟩ :: ⟨_, true, .raw (.bool (decide (y7 < (p0.length : Int))))⟩ :: []) (tl := []) (by kernel_rfl) (by kernel_rfl) (by kernel_rfl) ?_ ?_
      · exact
          Obls.cons (Obl.plain rfl rfl fun R' w' hw hs hd => by have a0 : R' 5 = .int .i64 y7 := (hs 5 rfl).trans h5; exact of_move a0) <|
          Obls.cons (Obl.plain rfl rfl fun R' w' hw hs hd => by have a0 : R' 0 = v0 := (hs 0 rfl).trans h0; exact of_move a0) <|
          Obls.cons (Obl.plain rfl rfl fun R' w' hw hs hd => by have a0 : R' 13 = v0 := hd 0 _ _ _ rfl rfl rfl rfl rfl; have ra0 := (f_v0.fr hw).eq a0; exact of_len_sl (aT := #[]) ra0 Try.underlying22) <|
          Obls.cons (Obl.plain rfl rfl fun R' w' hw hs hd => by have a0 : R' 12 = .int .i64 y7 := hd 0 _ _ _ rfl rfl rfl rfl rfl; have a1 : R' 14 = .int .i64 (p0.length : Int) := hd 1 _ _ _ rfl rfl rfl rfl rfl; exact of_lss a0 a1) <|
          Obls.nil
      intro R w hw hs hF'
      replace h0 : R 0 = v0 := (hs 0 rfl).trans h0
      replace h1 : R 1 = .int .i64 y6 := (hs 1 rfl).trans h1
      replace h5 : R 5 = .int .i64 y7 := (hs 5 rfl).trans h5
      have h15 : R 15 = .bool (decide (y7 < (p0.length : Int))) := hF' 3 _ _ rfl rfl rfl
      replace f_v0 := f_v0.fr hw
      replace hA := hA.fr hw.size
      replace hF := hF.trans hw
      clear hs hF' hw
      refine seqR_nil ?_
      refine HT.cond (decide (y7 < (p0.length : Int))) h15 (fun c8 => ?_) (fun c8 => ?_)
      · have hr := cnd_t c8 hr
        refine HT.skip ?_
        refine HT.seq ?_
        refine HT.block ?_
        refine HT.seq ?_
        obtain ⟨e9, hr⟩ := ck_some hr
        obtain ⟨x10, q11, hr⟩ := cl_some hr
        refine HT.text (l := ⟨_, true, .raw v0⟩ :: ⟨_, true, .raw (.int .i64 y7)⟩ :: ⟨_, true, .qtr E_impl_TokenCount A (gtD p0 y7)⟩ :: ⟨_, true, .rep E_impl_TokenCount A (gtD p0 y7)⟩ :: ⟨_, true, .raw (.int .i64 y6)⟩ :: ⟨_, true, .raw (.int .i64 x10)⟩ :: ⟨_, true, .raw (.int .i64 x10)⟩ :: []) (tl := []) (by kernel_rfl) (by kernel_rfl) (by kernel_rfl) ?_ ?_
        · exact
            Obls.cons (Obl.plain rfl rfl fun R' w' hw hs hd => by have a0 : R' 0 = v0 := (hs 0 rfl).trans h0; exact of_move a0) <|
            Obls.cons (Obl.plain rfl rfl fun R' w' hw hs hd => by have a0 : R' 5 = .int .i64 y7 := (hs 5 rfl).trans h5; exact of_move a0) <|
            Obls.cons (Obl.plain rfl rfl fun R' w' hw hs hd => by have a0 : R' 18 = v0 := hd 0 _ _ _ rfl rfl rfl rfl rfl; have a1 : R' 19 = .int .i64 y7 := hd 1 _ _ _ rfl rfl rfl rfl rfl; have ra0 := (f_v0.fr hw).eq a0; exact of_indexAddr ra0 a1 Try.underlying22 Try.sizeOf74 e9) <|
            Obls.cons (Obl.plain rfl rfl fun R' w' hw hs hd => by have a0 : QRep E_impl_TokenCount A w' (R' 20) (gtD p0 y7) := hd 0 _ _ _ rfl rfl rfl rfl rfl; exact (of_load a0.ptr Try.isAgg74 Try.sizeOf74)) <|
            Obls.cons (Obl.plain rfl rfl fun R' w' hw hs hd => by have a0 : R' 1 = .int .i64 y6 := (hs 1 rfl).trans h1; exact of_move a0) <|
            Obls.cons (Obl.plain rfl rfl fun R' w' hw hs hd => by have a0 : Rep E_impl_TokenCount A w' (R' 21) (gtD p0 y7) := hd 0 _ _ _ rfl rfl rfl rfl rfl; have a1 : R' 22 = .int .i64 y6 := hd 1 _ _ _ rfl rfl rfl rfl rfl; exact of_call Try.call58 (M_laws_szTokenCount_ok (q11 rfl) (hA.fr hw.size) a0 a1)) <|
            Obls.cons (Obl.plain rfl rfl fun R' w' hw hs hd => by have a0 : R' 23 = .int .i64 x10 := hd 0 _ _ _ rfl rfl rfl rfl rfl; exact of_assign a0) <|
            Obls.nil
        intro R w hw hs hF'
        replace h0 : R 0 = v0 := (hs 0 rfl).trans h0
        replace h5 : R 5 = .int .i64 y7 := (hs 5 rfl).trans h5
        have h1 : R 1 = .int .i64 x10 := hF' 6 _ _ rfl rfl rfl
        replace f_v0 := f_v0.fr hw
        replace hA := hA.fr hw.size
        replace hF := hF.trans hw
        clear hs hF' hw
        refine seqR_nil ?_
        refine HT.seq ?_
        refine HT.text (l := ⟨_, true, .raw (.int .i64 x10)⟩ :: ⟨_, true, .raw (.bool (decide (x10 < (0 : Int))))⟩ :: []) (tl := []) (by kernel_rfl) (by kernel_rfl) (by kernel_rfl) ?_ ?_
        · exact
            Obls.cons (Obl.plain rfl rfl fun R' w' hw hs hd => by have a0 : R' 1 = .int .i64 x10 := (hs 1 rfl).trans h1; exact of_move a0) <|
            Obls.cons (Obl.plain rfl rfl fun R' w' hw hs hd => by have a0 : R' 24 = .int .i64 x10 := hd 0 _ _ _ rfl rfl rfl rfl rfl; exact of_lss a0 rfl) <|
            Obls.nil
        intro R w hw hs hF'
        replace h0 : R 0 = v0 := (hs 0 rfl).trans h0
        replace h1 : R 1 = .int .i64 x10 := (hs 1 rfl).trans h1
        replace h5 : R 5 = .int .i64 y7 := (hs 5 rfl).trans h5
        have h25 : R 25 = .bool (decide (x10 < (0 : Int))) := hF' 1 _ _ rfl rfl rfl
        replace f_v0 := f_v0.fr hw
        replace hA := hA.fr hw.size
        replace hF := hF.trans hw
        clear hs hF' hw
        refine seqR_nil ?_
        refine HT.cond (decide (x10 < (0 : Int))) h25 (fun c12 => ?_) (fun c12 => ?_)
        · have hr := cnd_t c12 hr
          refine HT.seq ?_
          refine HT.text (l := ⟨_, true, .raw (.int .i64 (-1 : Int))⟩ :: []) (tl := []) (by kernel_rfl) (by kernel_rfl) (by kernel_rfl) ?_ ?_
          · exact
              Obls.cons (Obl.plain rfl rfl fun R' w' hw hs hd => by exact of_assign rfl) <|
              Obls.nil
          intro R w hw hs hF'
          have h4 : R 4 = .int .i64 (-1 : Int) := hF' 0 _ _ rfl rfl rfl
          replace hA := hA.fr hw.size
          replace hF := hF.trans hw
          clear hs hF' hw
          refine seqR_nil ?_
          refine HT.ret ?_
          obtain rfl := Option.some.inj hr
          have hr := hr0
          replace hr : some _ = some _ := hr
          obtain rfl := Option.some.inj hr
          exact ⟨.inr rfl, [R 4], ⟨rfl, trivial⟩, h4, hF⟩
        · have hr := cnd_f c12 hr
          refine HT.skip ?_
          obtain ⟨e13, hr⟩ := ck_some hr
          refine HT.text (l := ⟨_, true, .raw (.int .i64 y7)⟩ :: ⟨_, true, .raw (.int .i64 (y7 + (1 : Int)))⟩ :: ⟨_, true, .raw (.int .i64 (y7 + (1 : Int)))⟩ :: []) (tl := []) (by kernel_rfl) (by kernel_rfl) (by kernel_rfl) ?_ ?_
          · exact
              Obls.cons (Obl.plain rfl rfl fun R' w' hw hs hd => by have a0 : R' 5 = .int .i64 y7 := (hs 5 rfl).trans h5; exact of_move a0) <|
              Obls.cons (Obl.plain rfl rfl fun R' w' hw hs hd => by have a0 : R' 16 = .int .i64 y7 := hd 0 _ _ _ rfl rfl rfl rfl rfl; exact of_add a0 rfl e13) <|
              Obls.cons (Obl.plain rfl rfl fun R' w' hw hs hd => by have a0 : R' 17 = .int .i64 (y7 + (1 : Int)) := hd 0 _ _ _ rfl rfl rfl rfl rfl; exact of_assign a0) <|
              Obls.nil
          intro R w hw hs hF'
          replace h0 : R 0 = v0 := (hs 0 rfl).trans h0
          replace h1 : R 1 = .int .i64 x10 := (hs 1 rfl).trans h1
          have h5 : R 5 = .int .i64 (y7 + (1 : Int)) := hF' 2 _ _ rfl rfl rfl
          replace f_v0 := f_v0.fr hw
          replace hA := hA.fr hw.size
          replace hF := hF.trans hw
          clear hs hF' hw
          refine seqR_nil ?_
          exact Exists.intro k (And.intro (Nat.lt_succ_self k) ⟨_, _, hr, hA, hF, h0, h1, h5, f_v0⟩)
      · have hr := cnd_f c8 hr
        refine HT.exit ?_
        obtain rfl := Option.some.inj hr
        exact Exists.intro _ ⟨rfl, hA, hF, h1⟩
    rintro R w ⟨s5, rfl, hA, hF, h1⟩
    have hr := exM_go hr
    refine HT.seq ?_
    refine HT.text (l := ⟨_, true, .raw (.int .i64 s5)⟩ :: ⟨_, true, .raw (.int .i64 s5)⟩ :: []) (tl := []) (by kernel_rfl) (by kernel_rfl) (by kernel_rfl) ?_ ?_
    · exact
        Obls.cons (Obl.plain rfl rfl fun R' w' hw hs hd => by have a0 : R' 1 = .int .i64 s5 := (hs 1 rfl).trans h1; exact of_move a0) <|
        Obls.cons (Obl.plain rfl rfl fun R' w' hw hs hd => by have a0 : R' 26 = .int .i64 s5 := hd 0 _ _ _ rfl rfl rfl rfl rfl; exact of_assign a0) <|
        Obls.nil
    intro R w hw hs hF'
    have h4 : R 4 = .int .i64 s5 := hF' 1 _ _ rfl rfl rfl
    replace hA := hA.fr hw.size
    replace hF := hF.trans hw
    clear hs hF' hw
    refine seqR_nil ?_
    refine HT.ret ?_
    obtain rfl := Option.some.inj hr
    exact ⟨.inr rfl, [R 4], ⟨rfl, trivial⟩, h4, hF⟩
def M_laws_szStringS_L0 (fu : Nat) (p0 : List (List UInt8)) : Nat → Int → Int → Option (Ex Int Int)
  | 0, _, _ => none
  | k + 1, y6, y7 =>
    bif (decide (y7 < (p0.length : Int))) then (
      ck (inR y7 p0.length) <|
      ck (i64B (y6 - ((gtD p0 y7).length : Int))) <|
      bif (decide ((y6 - ((gtD p0 y7).length : Int)) < (0 : Int))) then (
        some (Ex.ret (-1 : Int))
      ) else (
        ck (i64B (y7 + (1 : Int))) <|
        M_laws_szStringS_L0 fu p0 k (y6 - ((gtD p0 y7).length : Int)) (y7 + (1 : Int))
      )
    ) else (
      some (Ex.go y6)
    )
def M_laws_szStringS (fu : Nat) (p0 : List (List UInt8)) (p1 : Int) : Option Int :=
  ck (i64B (p1 - (p0.length : Int))) <|
  bif (decide ((p1 - (p0.length : Int)) < (0 : Int))) then (
    some (-1 : Int)
  ) else (
    cl true (M_laws_szStringS_L0 fu p0 fu (p1 - (p0.length : Int)) (0 : Int)) fun rl3 =>
    exM rl3 (fun r => some r) fun s5 =>
    some s5
  )
set_option maxRecDepth 100000 in
set_option maxHeartbeats 4000000 in
theorem M_laws_szStringS_ok {fu : Nat} {A : Av} {p0 : List (List UInt8)} {p1 : Int} {r : Int} (hr : M_laws_szStringS fu p0 p1 = some r) {w : World} {v0 : Value} {v1 : Value} (hA : AvOK A w) (h0 : Rep (eSl eStr) A w v0 p0) (h1 : v1 = .int .i64 p1) :
    Calls Try.prog 14 #[v0, v1] w fun e w' => ∃ v, e = .returned v ∧ (v = .int .i64 r ∧ Fr w w') := by
  unfold M_laws_szStringS at hr
  obtain ⟨w0, hw0⟩ : ∃ w0, w0 = w := ⟨_, rfl⟩
  have hF : Fr w0 w := hw0 ▸ Fr.refl _
  rw [show Fr w = Fr w0 from hw0 ▸ rfl]
  clear hw0
  refine calls_of_HT2 [.tmp 4] Try.func14 Try.ntmps14 (by decide) rfl rfl (Nat.le_of_ble_eq_true rfl) ?_
  intro R hR
  have f_v0 := h0
  replace h0 : R 0 = v0 := hR 0 _ rfl
  replace h1 : R 1 = .int .i64 p1 := (hR 1 _ rfl).trans h1
  clear hR
  refine HT.seq ?_
  refine HT.text (l := ⟨_, true, .raw (.int .i64 (0 : Int))⟩ :: []) (tl := []) (by kernel_rfl) (by kernel_rfl) (by kernel_rfl) ?_ ?_
  · exact
      Obls.cons (Obl.plain rfl rfl fun R' w' hw hs hd => by exact of_assign rfl) <|
      Obls.nil
  intro R w hw hs hF'
  replace h0 : R 0 = v0 := (hs 0 rfl).trans h0
  replace h1 : R 1 = .int .i64 p1 := (hs 1 rfl).trans h1
  replace f_v0 := f_v0.fr hw
  replace hA := hA.fr hw.size
  replace hF := hF.trans hw
  clear hs hF' hw
  refine seqR_nil ?_
  refine HT.seq ?_
  obtain ⟨e1, hr⟩ := ck_some hr
  refine HT.text (l := ⟨_, true, .raw (.int .i64 p1)⟩ :: ⟨_, true, .raw v0⟩ :: ⟨_, true, .raw (.int .i64 (p0.length : Int))⟩ :: ⟨_, true, .raw (.int .i64 (p1 - (p0.length : Int)))⟩ :: ⟨_, true, .raw (.int .i64 (p1 - (p0.length : Int)))⟩ :: []) (tl := []) (by kernel_rfl) (by kernel_rfl) (by kernel_rfl) ?_ ?_
  · exact
      Obls.cons (Obl.plain rfl rfl fun R' w' hw hs hd => by have a0 : R' 1 = .int .i64 p1 := (hs 1 rfl).trans h1; exact of_move a0) <|
      Obls.cons (Obl.plain rfl rfl fun R' w' hw hs hd => by have a0 : R' 0 = v0 := (hs 0 rfl).trans h0; exact of_move a0) <|
      Obls.cons (Obl.plain rfl rfl fun R' w' hw hs hd => by have a0 : R' 7 = v0 := hd 0 _ _ _ rfl rfl rfl rfl rfl; have ra0 := (f_v0.fr hw).eq a0; exact of_len_sl (aT := #[]) ra0 Try.underlying23) <|
      Obls.cons (Obl.plain rfl rfl fun R' w' hw hs hd => by have a0 : R' 6 = .int .i64 p1 := hd 0 _ _ _ rfl rfl rfl rfl rfl; have a1 : R' 8 = .int .i64 (p0.length : Int) := hd 1 _ _ _ rfl rfl rfl rfl rfl; exact of_sub a0 a1 e1) <|
      Obls.cons (Obl.plain rfl rfl fun R' w' hw hs hd => by have a0 : R' 9 = .int .i64 (p1 - (p0.length : Int)) := hd 0 _ _ _ rfl rfl rfl rfl rfl; exact of_assign a0) <|
      Obls.nil
  intro R w hw hs hF'
  replace h0 : R 0 = v0 := (hs 0 rfl).trans h0
  have h1 : R 1 = .int .i64 (p1 - (p0.length : Int)) := hF' 4 _ _ rfl rfl rfl
  replace f_v0 := f_v0.fr hw
  replace hA := hA.fr hw.size
  replace hF := hF.trans hw
  clear hs hF' hw
  refine seqR_nil ?_
  refine HT.seq ?_
  refine HT.seq ?_
  refine HT.text (l := ⟨_, true, .raw (.int .i64 (p1 - (p0.length : Int)))⟩ :: ⟨_, true, .raw (.bool (decide ((p1 - (p0.length : Int)) < (0 : Int))))⟩ :: []) (tl := []) (by kernel_rfl) (by kernel_rfl) (by kernel_rfl) ?_ ?_
  · exact
      Obls.cons (Obl.plain rfl rfl fun R' w' hw hs hd => by have a0 : R' 1 = .int .i64 (p1 - (p0.length : Int)) := (hs 1 rfl).trans h1; exact of_move a0) <|
      Obls.cons (Obl.plain rfl rfl fun R' w' hw hs hd => by have a0 : R' 10 = .int .i64 (p1 - (p0.length : Int)) := hd 0 _ _ _ rfl rfl rfl rfl rfl; exact of_lss a0 rfl) <|
      Obls.nil
  intro R w hw hs hF'
  replace h0 : R 0 = v0 := (hs 0 rfl).trans h0
  replace h1 : R 1 = .int .i64 (p1 - (p0.length : Int)) := (hs 1 rfl).trans h1
  have h11 : R 11 = .bool (decide ((p1 - (p0.length : Int)) < (0 : Int))) := hF' 1 _ _ rfl rfl rfl
  replace f_v0 := f_v0.fr hw
  replace hA := hA.fr hw.size
  replace hF := hF.trans hw
  clear hs hF' hw
  refine seqR_nil ?_
  refine HT.cond (decide ((p1 - (p0.length : Int)) < (0 : Int))) h11 (fun c2 => ?_) (fun c2 => ?_)
  · have hr := cnd_t c2 hr
    refine HT.seq ?_
    refine HT.text (l := ⟨_, true, .raw (.int .i64 (-1 : Int))⟩ :: []) (tl := []) (by kernel_rfl) (by kernel_rfl) (by kernel_rfl) ?_ ?_
    · exact
        Obls.cons (Obl.plain rfl rfl fun R' w' hw hs hd => by exact of_assign rfl) <|
        Obls.nil
    intro R w hw hs hF'
    have h4 : R 4 = .int .i64 (-1 : Int) := hF' 0 _ _ rfl rfl rfl
    replace hA := hA.fr hw.size
    replace hF := hF.trans hw
    clear hs hF' hw
    refine seqR_nil ?_
    refine HT.ret ?_
    obtain rfl := Option.some.inj hr
    exact ⟨.inr rfl, [R 4], ⟨rfl, trivial⟩, h4, hF⟩
  · have hr := cnd_f c2 hr
    refine HT.skip ?_
    refine HT.seq ?_
    refine HT.seq ?_
    refine HT.text (l := ⟨_, true, .raw (.int .i64 (0 : Int))⟩ :: []) (tl := []) (by kernel_rfl) (by kernel_rfl) (by kernel_rfl) ?_ ?_
    · exact
        Obls.cons (Obl.plain rfl rfl fun R' w' hw hs hd => by exact of_assign rfl) <|
        Obls.nil
    intro R w hw hs hF'
    replace h0 : R 0 = v0 := (hs 0 rfl).trans h0
    replace h1 : R 1 = .int .i64 (p1 - (p0.length : Int)) := (hs 1 rfl).trans h1
    have h5 : R 5 = .int .i64 (0 : Int) := hF' 0 _ _ rfl rfl rfl
    replace f_v0 := f_v0.fr hw
    replace hA := hA.fr hw.size
    replace hF := hF.trans hw
    clear hs hF' hw
    refine seqR_nil ?_
    obtain ⟨rl3, q4, hr⟩ := cl_some hr
    replace q4 := q4 rfl
    refine HT.cut0 (fun R w => ∃ (s5 : Int), rl3 = Ex.go s5 ∧ AvOK A w ∧ Fr w0 w ∧ R 1 = .int .i64 s5) ?_ ?_
    · refine HT.block ?_
      refine HT.loop (fun k R w => ∃ (y6 : Int) (y7 : Int), M_laws_szStringS_L0 fu p0 k y6 y7 = some rl3 ∧ AvOK A w ∧ Fr w0 w ∧ R 0 = v0 ∧ R 1 = .int .i64 y6 ∧ R 5 = .int .i64 y7 ∧ Rep (eSl eStr) A w v0 p0) fu ⟨_, _, q4, hA, hF, h0, h1, h5, f_v0⟩ ?_
      have hr0 := hr; clear hr q4
      rintro k R w ⟨y6, y7, hr, hA, hF, h0, h1, h5, f_v0⟩
      rcases k with _ | k
      · cases (show none = some _ from hr)
      rw [M_laws_szStringS_L0] at hr
      refine HT.seq ?_
      refine HT.seq ?_
      refine HT.text (l := ⟨_, true, .raw (.int .i64 y7)⟩ :: ⟨_, true, .raw v0⟩ :: ⟨_, true, .raw (.int .i64 (p0.length : Int))⟩ :: ⟨_, true, .raw (.bool (decide (y7 < (p0.length : Int))))⟩ :: []) (tl := []) (by kernel_rfl) (by kernel_rfl) (by kernel_rfl) ?_ ?_
      · exact
          Obls.cons (Obl.plain rfl rfl fun R' w' hw hs hd => by have a0 : R' 5 = .int .i64 y7 := (hs 5 rfl).trans h5; exact of_move a0) <|
          Obls.cons (Obl.plain rfl rfl fun R' w' hw hs hd => by have a0 : R' 0 = v0 := (hs 0 rfl).trans h0; exact of_move a0) <|
          Obls.cons (Obl.plain rfl rfl fun R' w' hw hs hd => by have a0 : R' 13 = v0 := hd 0 _ _ _ rfl rfl rfl rfl rfl; have ra0 := (f_v0.fr hw).eq a0; exact of_len_sl (aT := #[]) ra0 Try.underlying23) <|
          Obls.cons (Obl.plain rfl rfl fun R' w' hw hs hd => by have a0 : R' 12 = .int .i64 y7 := hd 0 _ _ _ rfl rfl rfl rfl rfl; have a1 : R' 14 = .int .i64 (p0.length : Int) := hd 1 _ _ _ rfl rfl rfl rfl rfl; exact of_lss a0 a1) <|
          Obls.nil
      intro R w hw hs hF'
      replace h0 : R 0 = v0 := (hs 0 rfl).trans h0
      replace h1 : R 1 = .int .i64 y6 := (hs 1 rfl).trans h1
      replace h5 : R 5 = .int .i64 y7 := (hs 5 rfl).trans h5
      have h15 : R 15 = .bool (decide (y7 < (p0.length : Int))) := hF' 3 _ _ rfl rfl rfl
      replace f_v0 := f_v0.fr hw
      replace hA := hA.fr hw.size
      replace hF := hF.trans hw
      clear hs hF' hw
      refine seqR_nil ?_
      refine HT.cond (decide (y7 < (p0.length : Int))) h15 (fun c8 => ?_) (fun c8 => ?_)
      · have hr := cnd_t c8 hr
        refine HT.skip ?_
        refine HT.seq ?_
        refine HT.block ?_
        refine HT.seq ?_
        obtain ⟨e9, hr⟩ := ck_some hr
        obtain ⟨e10, hr⟩ := ck_some hr
        refine HT.text (l := ⟨_, true, .raw (.int .i64 y6)⟩ :: ⟨_, true, .raw v0⟩ :: ⟨_, true, .raw (.int .i64 y7)⟩ :: ⟨_, true, .qtr eStr A (gtD p0 y7)⟩ :: ⟨_, true, .rep eStr A (gtD p0 y7)⟩ :: ⟨_, true, .raw (.int .i64 ((gtD p0 y7).length : Int))⟩ :: ⟨_, true, .raw (.int .i64 (y6 - ((gtD p0 y7).length : Int)))⟩ :: ⟨_, true, .raw (.int .i64 (y6 - ((gtD p0 y7).length : Int)))⟩ :: []) (tl := []) (by kernel_rfl) (by kernel_rfl) (by kernel_rfl) ?_ ?_
        · exact
            Obls.cons (Obl.plain rfl rfl fun R' w' hw hs hd => by have a0 : R' 1 = .int .i64 y6 := (hs 1 rfl).trans h1; exact of_move a0) <|
            Obls.cons (Obl.plain rfl rfl fun R' w' hw hs hd => by have a0 : R' 0 = v0 := (hs 0 rfl).trans h0; exact of_move a0) <|
            Obls.cons (Obl.plain rfl rfl fun R' w' hw hs hd => by have a0 : R' 5 = .int .i64 y7 := (hs 5 rfl).trans h5; exact of_move a0) <|
            Obls.cons (Obl.plain rfl rfl fun R' w' hw hs hd => by have a0 : R' 19 = v0 := hd 0 _ _ _ rfl rfl rfl rfl rfl; have a1 : R' 20 = .int .i64 y7 := hd 1 _ _ _ rfl rfl rfl rfl rfl; have ra0 := (f_v0.fr hw).eq a0; exact of_indexAddr ra0 a1 Try.underlying23 Try.sizeOf9 e9) <|
            Obls.cons (Obl.plain rfl rfl fun R' w' hw hs hd => by have a0 : QRep eStr A w' (R' 21) (gtD p0 y7) := hd 0 _ _ _ rfl rfl rfl rfl rfl; exact (of_load a0.ptr Try.isAgg9 Try.sizeOf9)) <|
            Obls.cons (Obl.plain rfl rfl fun R' w' hw hs hd => by have a0 : Rep eStr A w' (R' 22) (gtD p0 y7) := hd 0 _ _ _ rfl rfl rfl rfl rfl; exact of_len_str a0 Try.underlying9) <|
            Obls.cons (Obl.plain rfl rfl fun R' w' hw hs hd => by have a0 : R' 18 = .int .i64 y6 := hd 0 _ _ _ rfl rfl rfl rfl rfl; have a1 : R' 23 = .int .i64 ((gtD p0 y7).length : Int) := hd 1 _ _ _ rfl rfl rfl rfl rfl; exact of_sub a0 a1 e10) <|
            Obls.cons (Obl.plain rfl rfl fun R' w' hw hs hd => by have a0 : R' 24 = .int .i64 (y6 - ((gtD p0 y7).length : Int)) := hd 0 _ _ _ rfl rfl rfl rfl rfl; exact of_assign a0) <|
            Obls.nil
        intro R w hw hs hF'
        replace h0 : R 0 = v0 := (hs 0 rfl).trans h0
        replace h5 : R 5 = .int .i64 y7 := (hs 5 rfl).trans h5
        have h1 : R 1 = .int .i64 (y6 - ((gtD p0 y7).length : Int)) := hF' 7 _ _ rfl rfl rfl
        replace f_v0 := f_v0.fr hw
        replace hA := hA.fr hw.size
        replace hF := hF.trans hw
        clear hs hF' hw
        refine seqR_nil ?_
        refine HT.seq ?_
        refine HT.text (l := ⟨_, true, .raw (.int .i64 (y6 - ((gtD p0 y7).length : Int)))⟩ :: ⟨_, true, .raw (.bool (decide ((y6 - ((gtD p0 y7).length : Int)) < (0 : Int))))⟩ :: []) (tl := []) (by kernel_rfl) (by kernel_rfl) (by kernel_rfl) ?_ ?_
        · exact
            Obls.cons (Obl.plain rfl rfl fun R' w' hw hs hd => by have a0 : R' 1 = .int .i64 (y6 - ((gtD p0 y7).length : Int)) := (hs 1 rfl).trans h1; exact of_move a0) <|
            Obls.cons (Obl.plain rfl rfl fun R' w' hw hs hd => by have a0 : R' 25 = .int .i64 (y6 - ((gtD p0 y7).length : Int)) := hd 0 _ _ _ rfl rfl rfl rfl rfl; exact of_lss a0 rfl) <|
            Obls.nil
        intro R w hw hs hF'
        replace h0 : R 0 = v0 := (hs 0 rfl).trans h0
        replace h1 : R 1 = .int .i64 (y6 - ((gtD p0 y7).length : Int)) := (hs 1 rfl).trans h1
        replace h5 : R 5 = .int .i64 y7 := (hs 5 rfl).trans h5
        have h26 : R 26 = .bool (decide ((y6 - ((gtD p0 y7).length : Int)) < (0 : Int))) := hF' 1 _ _ rfl rfl rfl
        replace f_v0 := f_v0.fr hw
        replace hA := hA.fr hw.size
        replace hF := hF.trans hw
        clear hs hF' hw
        refine seqR_nil ?_
        refine HT.cond (decide ((y6 - ((gtD p0 y7).length : Int)) < (0 : Int))) h26 (fun c11 => ?_) (fun c11 => ?_)
        · have hr := cnd_t c11 hr
          refine HT.seq ?_
          refine HT.text (l := ⟨_, true, .raw (.int .i64 (-1 : Int))⟩ :: []) (tl := []) (by kernel_rfl) (by kernel_rfl) (by kernel_rfl) ?_ ?_
          · exact
              Obls.cons (Obl.plain rfl rfl fun R' w' hw hs hd => by exact of_assign rfl) <|
              Obls.nil
          intro R w hw hs hF'
          have h4 : R 4 = .int .i64 (-1 : Int) := hF' 0 _ _ rfl rfl rfl
          replace hA := hA.fr hw.size
          replace hF := hF.trans hw
          clear hs hF' hw
          refine seqR_nil ?_
          refine HT.ret ?_
          obtain rfl := Option.some.inj hr
          have hr := hr0
          replace hr : some _ = some _ := hr
          obtain rfl := Option.some.inj hr
          exact ⟨.inr rfl, [R 4], ⟨rfl, trivial⟩, h4, hF⟩
        · have hr := cnd_f c11 hr
          refine HT.skip ?_
          obtain ⟨e12, hr⟩ := ck_some hr
          refine HT.text (l := ⟨_, true, .raw (.int .i64 y7)⟩ :: ⟨_, true, .raw (.int .i64 (y7 + (1 : Int)))⟩ :: ⟨_, true, .raw (.int .i64 (y7 + (1 : Int)))⟩ :: []) (tl := []) (by kernel_rfl) (by kernel_rfl) (by kernel_rfl) ?_ ?_
          · exact
              Obls.cons (Obl.plain rfl rfl fun R' w' hw hs hd => by have a0 : R' 5 = .int .i64 y7 := (hs 5 rfl).trans h5; exact of_move a0) <|
              Obls.cons (Obl.plain rfl rfl fun R' w' hw hs hd => by have a0 : R' 16 = .int .i64 y7 := hd 0 _ _ _ rfl rfl rfl rfl rfl; exact of_add a0 rfl e12) <|
              Obls.cons (Obl.plain rfl rfl fun R' w' hw hs hd => by have a0 : R' 17 = .int .i64 (y7 + (1 : Int)) := hd 0 _ _ _ rfl rfl rfl rfl rfl; exact of_assign a0) <|
              Obls.nil
          intro R w hw hs hF'
          replace h0 : R 0 = v0 := (hs 0 rfl).trans h0
          replace h1 : R 1 = .int .i64 (y6 - ((gtD p0 y7).length : Int)) := (hs 1 rfl).trans h1
          have h5 : R 5 = .int .i64 (y7 + (1 : Int)) := hF' 2 _ _ rfl rfl rfl
          replace f_v0 := f_v0.fr hw
          replace hA := hA.fr hw.size
          replace hF := hF.trans hw
          clear hs hF' hw
          refine seqR_nil ?_
          exact Exists.intro k (And.intro (Nat.lt_succ_self k) ⟨_, _, hr, hA, hF, h0, h1, h5, f_v0⟩)
      · have hr := cnd_f c8 hr
        refine HT.exit ?_
        obtain rfl := Option.some.inj hr
        exact Exists.intro _ ⟨rfl, hA, hF, h1⟩
    rintro R w ⟨s5, rfl, hA, hF, h1⟩
    have hr := exM_go hr
    refine HT.seq ?_
    refine HT.text (l := ⟨_, true, .raw (.int .i64 s5)⟩ :: ⟨_, true, .raw (.int .i64 s5)⟩ :: []) (tl := []) (by kernel_rfl) (by kernel_rfl) (by kernel_rfl) ?_ ?_
    · exact
        Obls.cons (Obl.plain rfl rfl fun R' w' hw hs hd => by have a0 : R' 1 = .int .i64 s5 := (hs 1 rfl).trans h1; exact of_move a0) <|
        Obls.cons (Obl.plain rfl rfl fun R' w' hw hs hd => by have a0 : R' 27 = .int .i64 s5 := hd 0 _ _ _ rfl rfl rfl rfl rfl; exact of_assign a0) <|
        Obls.nil
    intro R w hw hs hF'
    have h4 : R 4 = .int .i64 s5 := hF' 1 _ _ rfl rfl rfl
    replace hA := hA.fr hw.size
    replace hF := hF.trans hw
    clear hs hF' hw
    refine seqR_nil ?_
    refine HT.ret ?_
    obtain rfl := Option.some.inj hr
    exact ⟨.inr rfl, [R 4], ⟨rfl, trivial⟩, h4, hF⟩
def M_laws_szIndexedSet (fu : Nat) (p0 : T_impl_IndexedSet) (p1 : Int) : Option Int :=
  cl true (M_laws_szStringS fu p0.2 p1) fun x2 =>
  bif (decide (x2 < (0 : Int))) then (
    some (-1 : Int)
  ) else (
    some x2
  )
set_option maxRecDepth 100000 in
set_option maxHeartbeats 4000000 in
theorem M_laws_szIndexedSet_ok {fu : Nat} {A0 : Av} {p0 : T_impl_IndexedSet} {p1 : Int} {r : Int} (hr : M_laws_szIndexedSet fu p0 p1 = some r) {w : World} {v0 : Value} {v1 : Value} (hA : AvOK A0 w) (h0 : Rep E_impl_IndexedSet A0 w v0 p0) (h1 : v1 = .int .i64 p1) :
    Calls Try.prog 112 #[v0, v1] w fun e w' => ∃ v, e = .returned v ∧ (v = .int .i64 r ∧ Fr w w') := by
  unfold M_laws_szIndexedSet at hr
  obtain ⟨w0, hw0⟩ : ∃ w0, w0 = w := ⟨_, rfl⟩
  have hF : Fr w0 w := hw0 ▸ Fr.refl _
  have hA0 : ∀ b o, A0 b o → b < w0.heap.size := fun b o h => hw0 ▸ hA b o h
  have hA00 : AvOK A0 w0 := hA0
  rw [show Fr w = Fr w0 from hw0 ▸ rfl]
  clear hw0
  obtain ⟨A, hAe⟩ : ∃ A, A = A0 := ⟨_, rfl⟩
  have hAA : ∀ b o, A0 b o → A b o := fun b o h => hAe ▸ h
  replace hA : AvOK A w := hAe ▸ hA
  have hO : IniOK [] A w := IniOK.nil
  refine calls_of_HT2 [.tmp 4] Try.func112 Try.ntmps112 (by decide) rfl rfl (Nat.le_of_ble_eq_true rfl) ?_
  intro R hR
  have f_v0 : Rep E_impl_IndexedSet A w v0 p0 := hAe ▸ h0
  replace h0 : R 0 = v0 := hR 0 _ rfl
  replace h1 : R 1 = .int .i64 p1 := (hR 1 _ rfl).trans h1
  clear hR hAe
  refine HT.seq ?_
  refine HT.textR [] (⟨_, true, [], some (.box w0.heap.size 120 E_impl_IndexedSet p0), true, fun A => .any⟩ :: ⟨_, true, [], none, true, fun A => .raw (.int .i64 (0 : Int))⟩ :: []) (by kernel_rfl) (by kernel_rfl) (Wf.mk' (by kernel_rfl) (UAll.cons ust_any (UAll.cons ust_raw (UAll.nil))) (by kernel_rfl) (by kernel_rfl)) hO hA ?_ ?_
  · exact
      OblsR.cons (OblR.made _ rfl rfl rfl rfl fun A' R' w' ho hd => by have a0 : R' 0 = v0 := (ho.old 0 rfl).trans h0; have ra0 := (f_v0.stp ho.stp).eq a0; exact made_box ra0 (Nat.le_trans hF.size ho.ch.size)) <|
      OblsR.cons (OblR.plain rfl rfl rfl rfl fun A' R' w' ho hd => by exact of_assign rfl) <|
      OblsR.nil
  intro done ρ σ A R w hdn hI
  replace h1 : R 1 = .int .i64 p1 := (hI.reg rfl).trans h1
  obtain ⟨b2_0, e_b2_0⟩ := hI.boxv hdn 0 rfl rfl
  have h2 : R 2 = (.pointer (some ⟨b2_0, 0, none⟩)) := (hI.opvR hdn 0 0 rfl rfl rfl rfl rfl).symm.trans e_b2_0
  replace hAA := hI.low' hAA hA0 (hO.ge (trivial))
  replace hF : Fr w0 w := hF.tr hI.ch (hO.ge (trivial))
  replace hO : IniOK [ob (.pointer (some ⟨b2_0, 0, none⟩)) (.box w0.heap.size 120 E_impl_IndexedSet p0)] A w := hI.left hdn [(0, ob (.pointer (some ⟨b2_0, 0, none⟩)) (.box w0.heap.size 120 E_impl_IndexedSet p0))] ⟨rfl, rfl, e_b2_0, rfl, rfl, trivial⟩
  replace hA := hI.avok
  clear hI
  refine HT.seq ?_
  obtain ⟨x2, q3, hr⟩ := cl_some hr
  refine HT.text (l := ⟨_, true, .raw (.pointer (some ⟨b2_0, 1, none⟩))⟩ :: ⟨_, true, .rep (eSl eStr) A p0.2⟩ :: ⟨_, true, .raw (.int .i64 p1)⟩ :: ⟨_, true, .raw (.int .i64 x2)⟩ :: ⟨_, true, .raw (.int .i64 x2)⟩ :: []) (tl := []) (by kernel_rfl) (by kernel_rfl) (by kernel_rfl) ?_ ?_
  · exact
      Obls.cons (Obl.plain rfl rfl fun R' w' hw hs hd => by have a0 : R' 2 = (.pointer (some ⟨b2_0, 0, none⟩)) := (hs 2 rfl).trans h2; exact of_fieldAddr_raw a0 ff_120_1 Try.sizeOf23 (by decide) rfl) <|
      Obls.cons (Obl.plain rfl rfl fun R' w' hw hs hd => by have a0 : R' 5 = (.pointer (some ⟨b2_0, 1, none⟩)) := hd 0 _ _ _ rfl rfl rfl rfl rfl; exact (of_load_box ((hO.fr hw).ok 0 _ rfl).1 a0 fl_impl_IndexedSet_1 rfl Try.isAgg23 Try.sizeOf23)) <|
      Obls.cons (Obl.plain rfl rfl fun R' w' hw hs hd => by have a0 : R' 1 = .int .i64 p1 := (hs 1 rfl).trans h1; exact of_move a0) <|
      Obls.cons (Obl.plain rfl rfl fun R' w' hw hs hd => by have a0 : Rep (eSl eStr) A w' (R' 6) p0.2 := hd 0 _ _ _ rfl rfl rfl rfl rfl; have a1 : R' 7 = .int .i64 p1 := hd 1 _ _ _ rfl rfl rfl rfl rfl; exact of_call Try.call14 (M_laws_szStringS_ok (q3 rfl) (hA.fr hw.size) a0 a1)) <|
      Obls.cons (Obl.plain rfl rfl fun R' w' hw hs hd => by have a0 : R' 8 = .int .i64 x2 := hd 0 _ _ _ rfl rfl rfl rfl rfl; exact of_assign a0) <|
      Obls.nil
  intro R w hw hs hF'
  have h1 : R 1 = .int .i64 x2 := hF' 4 _ _ rfl rfl rfl
  replace hO := hO.fr hw
  replace hO : IniOK [] A w := hO.sub [] trivial
  replace hA := hA.fr hw.size
  replace hF := hF.trans hw
  clear hs hF' hw
  refine seqR_nil ?_
  refine HT.seq ?_
  refine HT.seq ?_
  refine HT.text (l := ⟨_, true, .raw (.int .i64 x2)⟩ :: ⟨_, true, .raw (.bool (decide (x2 < (0 : Int))))⟩ :: []) (tl := []) (by kernel_rfl) (by kernel_rfl) (by kernel_rfl) ?_ ?_
  · exact
      Obls.cons (Obl.plain rfl rfl fun R' w' hw hs hd => by have a0 : R' 1 = .int .i64 x2 := (hs 1 rfl).trans h1; exact of_move a0) <|
      Obls.cons (Obl.plain rfl rfl fun R' w' hw hs hd => by have a0 : R' 9 = .int .i64 x2 := hd 0 _ _ _ rfl rfl rfl rfl rfl; exact of_lss a0 rfl) <|
      Obls.nil
  intro R w hw hs hF'
  replace h1 : R 1 = .int .i64 x2 := (hs 1 rfl).trans h1
  have h10 : R 10 = .bool (decide (x2 < (0 : Int))) := hF' 1 _ _ rfl rfl rfl
  replace hO := hO.fr hw
  replace hA := hA.fr hw.size
  replace hF := hF.trans hw
  clear hs hF' hw
  refine seqR_nil ?_
  refine HT.cond (decide (x2 < (0 : Int))) h10 (fun c4 => ?_) (fun c4 => ?_)
  · have hr := cnd_t c4 hr
    refine HT.seq ?_
    refine HT.text (l := ⟨_, true, .raw (.int .i64 (-1 : Int))⟩ :: []) (tl := []) (by kernel_rfl) (by kernel_rfl) (by kernel_rfl) ?_ ?_
    · exact
        Obls.cons (Obl.plain rfl rfl fun R' w' hw hs hd => by exact of_assign rfl) <|
        Obls.nil
    intro R w hw hs hF'
    have h4 : R 4 = .int .i64 (-1 : Int) := hF' 0 _ _ rfl rfl rfl
    replace hO := hO.fr hw
    replace hA := hA.fr hw.size
    replace hF := hF.trans hw
    clear hs hF' hw
    refine seqR_nil ?_
    refine HT.ret ?_
    obtain rfl := Option.some.inj hr
    exact ⟨.inr rfl, [R 4], ⟨rfl, trivial⟩, h4, hF⟩
  · have hr := cnd_f c4 hr
    refine HT.skip ?_
    refine HT.seq ?_
    refine HT.text (l := ⟨_, true, .raw (.int .i64 x2)⟩ :: ⟨_, true, .raw (.int .i64 x2)⟩ :: []) (tl := []) (by kernel_rfl) (by kernel_rfl) (by kernel_rfl) ?_ ?_
    · exact
        Obls.cons (Obl.plain rfl rfl fun R' w' hw hs hd => by have a0 : R' 1 = .int .i64 x2 := (hs 1 rfl).trans h1; exact of_move a0) <|
        Obls.cons (Obl.plain rfl rfl fun R' w' hw hs hd => by have a0 : R' 11 = .int .i64 x2 := hd 0 _ _ _ rfl rfl rfl rfl rfl; exact of_assign a0) <|
        Obls.nil
    intro R w hw hs hF'
    have h4 : R 4 = .int .i64 x2 := hF' 1 _ _ rfl rfl rfl
    replace hO := hO.fr hw
    replace hA := hA.fr hw.size
    replace hF := hF.trans hw
    clear hs hF' hw
    refine seqR_nil ?_
    refine HT.ret ?_
    obtain rfl := Option.some.inj hr
    exact ⟨.inr rfl, [R 4], ⟨rfl, trivial⟩, h4, hF⟩
def M_laws_szIndexedSetS_L0 (fu : Nat) (p0 : List T_impl_IndexedSet) : Nat → Int → Int → Option (Ex Int Int)
  | 0, _, _ => none
  | k + 1, y6, y7 =>
    bif (decide (y7 < (p0.length : Int))) then (
      ck (inR y7 p0.length) <|
      cl true (M_laws_szIndexedSet fu (gtD p0 y7) y6) fun x10 =>
      bif (decide (x10 < (0 : Int))) then (
        some (Ex.ret (-1 : Int))
      ) else (
        ck (i64B (y7 + (1 : Int))) <|
        M_laws_szIndexedSetS_L0 fu p0 k x10 (y7 + (1 : Int))
      )
    ) else (
      some (Ex.go y6)
    )
def M_laws_szIndexedSetS (fu : Nat) (p0 : List T_impl_IndexedSet) (p1 : Int) : Option Int :=
  ck (i64B (p1 - (p0.length : Int))) <|
  bif (decide ((p1 - (p0.length : Int)) < (0 : Int))) then (
    some (-1 : Int)
  ) else (
    cl true (M_laws_szIndexedSetS_L0 fu p0 fu (p1 - (p0.length : Int)) (0 : Int)) fun rl3 =>
    exM rl3 (fun r => some r) fun s5 =>
    some s5
  )
set_option maxRecDepth 100000 in
set_option maxHeartbeats 4000000 in
theorem M_laws_szIndexedSetS_ok {fu : Nat} {A : Av} {p0 : List T_impl_IndexedSet} {p1 : Int} {r : Int} (hr : M_laws_szIndexedSetS fu p0 p1 = some r) {w : World} {v0 : Value} {v1 : Value} (hA : AvOK A w) (h0 : Rep (eSl E_impl_IndexedSet) A w v0 p0) (h1 : v1 = .int .i64 p1) :
    Calls Try.prog 78 #[v0, v1] w fun e w' => ∃ v, e = .returned v ∧ (v = .int .i64 r ∧ Fr w w') := by
  unfold M_laws_szIndexedSetS at hr
  obtain ⟨w0, hw0⟩ : ∃ w0, w0 = w := ⟨_, rfl⟩
  have hF : Fr w0 w := hw0 ▸ Fr.refl _
  rw [show Fr w = Fr w0 from hw0 ▸ rfl]
  clear hw0
  refine calls_of_HT2 [.tmp 4] Try.func78 Try.ntmps78 (by decide) rfl rfl (Nat.le_of_ble_eq_true rfl) ?_
  intro R hR
  have f_v0 := h0
  replace h0 : R 0 = v0 := hR 0 _ rfl
  replace h1 : R 1 = .int .i64 p1 := (hR 1 _ rfl).trans h1
  clear hR
  refine HT.seq ?_
  refine HT.text (l := ⟨_, true, .raw (.int .i64 (0 : Int))⟩ :: []) (tl := []) (by kernel_rfl) (by kernel_rfl) (by kernel_rfl) ?_ ?_
  · exact
      Obls.cons (Obl.plain rfl rfl fun R' w' hw hs hd => by exact of_assign rfl) <|
      Obls.nil
  intro R w hw hs hF'
  replace h0 : R 0 = v0 := (hs 0 rfl).trans h0
  replace h1 : R 1 = .int .i64 p1 := (hs 1 rfl).trans h1
  replace f_v0 := f_v0.fr hw
  replace hA := hA.fr hw.size
  replace hF := hF.trans hw
  clear hs hF' hw
  refine seqR_nil ?_
  refine HT.seq ?_
  obtain ⟨e1, hr⟩ := ck_some hr
  refine HT.text (l := ⟨_, true, .raw (.int .i64 p1)⟩ :: ⟨_, true, .raw v0⟩ :: ⟨_, true, .raw (.int .i64 (p0.length : Int))⟩ :: ⟨_, true, .raw (.int .i64 (p1 - (p0.length : Int)))⟩ :: ⟨_, true, .raw (.int .i64 (p1 - (p0.length : Int)))⟩ :: []) (tl := []) (by kernel_rfl) (by kernel_rfl) (by kernel_rfl) ?_ ?_
  · exact
      Obls.cons (Obl.plain rfl rfl fun R' w' hw hs hd => by have a0 : R' 1 = .int .i64 p1 := (hs 1 rfl).trans h1; exact of_move a0) <|
      Obls.cons (Obl.plain rfl rfl fun R' w' hw hs hd => by have a0 : R' 0 = v0 := (hs 0 rfl).trans h0; exact of_move a0) <|
      Obls.cons (Obl.plain rfl rfl fun R' w' hw hs hd => by have a0 : R' 7 = v0 := hd 0 _ _ _ rfl rfl rfl rfl rfl; have ra0 := (f_v0.fr hw).eq a0; exact of_len_sl (aT := #[]) ra0 Try.underlying42) <|
      Obls.cons (Obl.plain rfl rfl fun R' w' hw hs hd => by have a0 : R' 6 = .int .i64 p1 := hd 0 _ _ _ rfl rfl rfl rfl rfl; have a1 : R' 8 = .int .i64 (p0.length : Int) := hd 1 _ _ _ rfl rfl rfl rfl rfl; exact of_sub a0 a1 e1) <|
      Obls.cons (Obl.plain rfl rfl fun R' w' hw hs hd => by have a0 : R' 9 = .int .i64 (p1 - (p0.length : Int)) := hd 0 _ _ _ rfl rfl rfl rfl rfl; exact of_assign a0) <|
      Obls.nil
  intro R w hw hs hF'
  replace h0 : R 0 = v0 := (hs 0 rfl).trans h0
  have h1 : R 1 = .int .i64 (p1 - (p0.length : Int)) := hF' 4 _ _ rfl rfl rfl
  replace f_v0 := f_v0.fr hw
  replace hA := hA.fr hw.size
  replace hF := hF.trans hw
  clear hs hF' hw
  refine seqR_nil ?_
  refine HT.seq ?_
  refine HT.seq ?_
  refine HT.text (l := ⟨_, true, .raw (.int .i64 (p1 - (p0.length : Int)))⟩ :: ⟨_, true, .raw (.bool (decide ((p1 - (p0.length : Int)) < (0 : Int))))⟩ :: []) (tl := []) (by kernel_rfl) (by kernel_rfl) (by kernel_rfl) ?_ ?_
  · exact
      Obls.cons (Obl.plain rfl rfl fun R' w' hw hs hd => by have a0 : R' 1 = .int .i64 (p1 - (p0.length : Int)) := (hs 1 rfl).trans h1; exact of_move a0) <|
      Obls.cons (Obl.plain rfl rfl fun R' w' hw hs hd => by have a0 : R' 10 = .int .i64 (p1 - (p0.length : Int)) := hd 0 _ _ _ rfl rfl rfl rfl rfl; exact of_lss a0 rfl) <|
      Obls.nil
  intro R w hw hs hF'
  replace h0 : R 0 = v0 := (hs 0 rfl).trans h0
  replace h1 : R 1 = .int .i64 (p1 - (p0.length : Int)) := (hs 1 rfl).trans h1
  have h11 : R 11 = .bool (decide ((p1 - (p0.length : Int)) < (0 : Int))) := hF' 1 _ _ rfl rfl rfl
  replace f_v0 := f_v0.fr hw
  replace hA := hA.fr hw.size
  replace hF := hF.trans hw
  clear hs hF' hw
  refine seqR_nil ?_
  refine HT.cond (decide ((p1 - (p0.length : Int)) < (0 : Int))) h11 (fun c2 => ?_) (fun c2 => ?_)
  · have hr := cnd_t c2 hr
    refine HT.seq ?_
    refine HT.text (l := ⟨_, true, .raw (.int .i64 (-1 : Int))⟩ :: []) (tl := []) (by kernel_rfl) (by kernel_rfl) (by kernel_rfl) ?_ ?_
    · exact
        Obls.cons (Obl.plain rfl rfl fun R' w' hw hs hd => by exact of_assign rfl) <|
        Obls.nil
    intro R w hw hs hF'
    have h4 : R 4 = .int .i64 (-1 : Int) := hF' 0 _ _ rfl rfl rfl
    replace hA := hA.fr hw.size
    replace hF := hF.trans hw
    clear hs hF' hw
    refine seqR_nil ?_
    refine HT.ret ?_
    obtain rfl := Option.some.inj hr
    exact ⟨.inr rfl, [R 4], ⟨rfl, trivial⟩, h4, hF⟩
  · have hr := cnd_f c2 hr
    refine HT.skip ?_
    refine HT.seq ?_
    refine HT.seq ?_
    refine HT.text (l := ⟨_, true, .raw (.int .i64 (0 : Int))⟩ :: []) (tl := []) (by kernel_rfl) (by kernel_rfl) (by kernel_rfl) ?_ ?_
    · exact
        Obls.cons (Obl.plain rfl rfl fun R' w' hw hs hd => by exact of_assign rfl) <|
        Obls.nil
    intro R w hw hs hF'
    replace h0 : R 0 = v0 := (hs 0 rfl).trans h0
    replace h1 : R 1 = .int .i64 (p1 - (p0.length : Int)) := (hs 1 rfl).trans h1
    have h5 : R 5 = .int .i64 (0 : Int) := hF' 0 _ _ rfl rfl rfl
    replace f_v0 := f_v0.fr hw
    replace hA := hA.fr hw.size
    replace hF := hF.trans hw
    clear hs hF' hw
    refine seqR_nil ?_
    obtain ⟨rl3, q4, hr⟩ := cl_some hr
    replace q4 := q4 rfl
    refine HT.cut0 (fun R w => ∃ (s5 : Int), rl3 = Ex.go s5 ∧ AvOK A w ∧ Fr w0 w ∧ R 1 = .int .i64 s5) ?_ ?_
    · refine HT.block ?_
      refine HT.loop (fun k R w => ∃ (y6 : Int) (y7 : Int), M_laws_szIndexedSetS_L0 fu p0 k y6 y7 = some rl3 ∧ AvOK A w ∧ Fr w0 w ∧ R 0 = v0 ∧ R 1 = .int .i64 y6 ∧ R 5 = .int .i64 y7 ∧ Rep (eSl E_impl_IndexedSet) A w v0 p0) fu ⟨_, _, q4, hA, hF, h0, h1, h5, f_v0⟩ ?_
      have hr0 := hr; clear hr q4
      rintro k R w ⟨y6, y7, hr, hA, hF, h0, h1, h5, f_v0⟩
      rcases k with _ | k
      · cases (show none = some _ from hr)
      rw [M_laws_szIndexedSetS_L0] at hr
      refine HT.seq ?_
      refine HT.seq ?_
      refine HT.text (l := ⟨_, true, .raw (.int .i64 y7)⟩ :: ⟨_, true, .raw v0⟩ :: ⟨_, true, .raw (.int .i64 (p0.length : Int))⟩ :: ⟨_, true, .raw (.bool (decide (y7 < (p0.length : Int))))⟩ :: []) (tl := []) (by kernel_rfl) (by kernel_rfl) (by kernel_rfl) ?_ ?_
      · exact
          Obls.cons (Obl.plain rfl rfl fun R' w' hw hs hd => by have a0 : R' 5 = .int .i64 y7 := (hs 5 rfl).trans h5; exact of_move a0) <|
          Obls.cons (Obl.plain rfl rfl fun R' w' hw hs hd => by have a0 : R' 0 = v0 := (hs 0 rfl).trans h0; exact of_move a0) <|
          Obls.cons (Obl.plain rfl rfl fun R' w' hw hs hd => by have a0 : R' 13 = v0 := hd 0 _ _ _ rfl rfl rfl rfl rfl; have ra0 := (f_v0.fr hw).eq a0; exact of_len_sl (aT := #[]) ra0 Try.underlying42) <|
          Obls.cons (Obl.plain rfl rfl fun R' w' hw hs hd => by have a0 : R' 12 = .int .i64 y7 := hd 0 _ _ _ rfl rfl rfl rfl rfl; have a1 : R' 14 = .int .i64 (p0.length : Int) := hd 1 _ _ _ rfl rfl rfl rfl rfl; exact of_lss a0 a1) <|
          Obls.nil
      intro R w hw hs hF'
      replace h0 : R 0 = v0 := (hs 0 rfl).trans h0
      replace h1 : R 1 = .int .i64 y6 := (hs 1 rfl).trans h1
      replace h5 : R 5 = .int .i64 y7 := (hs 5 rfl).trans h5
      have h15 : R 15 = .bool (decide (y7 < (p0.length : Int))) := hF' 3 _ _ rfl rfl rfl
      replace f_v0 := f_v0.fr hw
      replace hA := hA.fr hw.size
      replace hF := hF.trans hw
      clear hs hF' hw
      refine seqR_nil ?_
      refine HT.cond (decide (y7 < (p0.length : Int))) h15 (fun c8 => ?_) (fun c8 => ?_)
      · have hr := cnd_t c8 hr
        refine HT.skip ?_
        refine HT.seq ?_
        refine HT.block ?_
        refine HT.seq ?_
        obtain ⟨e9, hr⟩ := ck_some hr
        obtain ⟨x10, q11, hr⟩ := cl_some hr
        refine HT.text (l := ⟨_, true, .raw v0⟩ :: ⟨_, true, .raw (.int .i64 y7)⟩ :: ⟨_, true, .qtr E_impl_IndexedSet A (gtD p0 y7)⟩ :: ⟨_, true, .rep E_impl_IndexedSet A (gtD p0 y7)⟩ :: ⟨_, true, .raw (.int .i64 y6)⟩ :: ⟨_, true, .raw (.int .i64 x10)⟩ :: ⟨_, true, .raw (.int .i64 x10)⟩ :: []) (tl := []) (by kernel_rfl) (by kernel_rfl) (by kernel_rfl) ?_ ?_
        · exact
            Obls.cons (Obl.plain rfl rfl fun R' w' hw hs hd => by have a0 : R' 0 = v0 := (hs 0 rfl).trans h0; exact of_move a0) <|
            Obls.cons (Obl.plain rfl rfl fun R' w' hw hs hd => by have a0 : R' 5 = .int .i64 y7 := (hs 5 rfl).trans h5; exact of_move a0) <|
            Obls.cons (Obl.plain rfl rfl fun R' w' hw hs hd => by have a0 : R' 18 = v0 := hd 0 _ _ _ rfl rfl rfl rfl rfl; have a1 : R' 19 = .int .i64 y7 := hd 1 _ _ _ rfl rfl rfl rfl rfl; have ra0 := (f_v0.fr hw).eq a0; exact of_indexAddr ra0 a1 Try.underlying42 Try.sizeOf120 e9) <|
            Obls.cons (Obl.plain rfl rfl fun R' w' hw hs hd => by have a0 : QRep E_impl_IndexedSet A w' (R' 20) (gtD p0 y7) := hd 0 _ _ _ rfl rfl rfl rfl rfl; exact (of_load a0.ptr Try.isAgg120 Try.sizeOf120)) <|
            Obls.cons (Obl.plain rfl rfl fun R' w' hw hs hd => by have a0 : R' 1 = .int .i64 y6 := (hs 1 rfl).trans h1; exact of_move a0) <|
            Obls.cons (Obl.plain rfl rfl fun R' w' hw hs hd => by have a0 : Rep E_impl_IndexedSet A w' (R' 21) (gtD p0 y7) := hd 0 _ _ _ rfl rfl rfl rfl rfl; have a1 : R' 22 = .int .i64 y6 := hd 1 _ _ _ rfl rfl rfl rfl rfl; exact of_call Try.call112 (M_laws_szIndexedSet_ok (q11 rfl) (hA.fr hw.size) a0 a1)) <|
            Obls.cons (Obl.plain rfl rfl fun R' w' hw hs hd => by have a0 : R' 23 = .int .i64 x10 := hd 0 _ _ _ rfl rfl rfl rfl rfl; exact of_assign a0) <|
            Obls.nil
        intro R w hw hs hF'
        replace h0 : R 0 = v0 := (hs 0 rfl).trans h0
        replace h5 : R 5 = .int .i64 y7 := (hs 5 rfl).trans h5
        have h1 : R 1 = .int .i64 x10 := hF' 6 _ _ rfl rfl rfl
        replace f_v0 := f_v0.fr hw
        replace hA := hA.fr hw.size
        replace hF := hF.trans hw
        clear hs hF' hw
        refine seqR_nil ?_
        refine HT.seq ?_
        refine HT.text (l := ⟨_, true, .raw (.int .i64 x10)⟩ :: ⟨_, true, .raw (.bool (decide (x10 < (0 : Int))))⟩ :: []) (tl := []) (by kernel_rfl) (by kernel_rfl) (by kernel_rfl) ?_ ?_
        · exact
            Obls.cons (Obl.plain rfl rfl fun R' w' hw hs hd => by have a0 : R' 1 = .int .i64 x10 := (hs 1 rfl).trans h1; exact of_move a0) <|
            Obls.cons (Obl.plain rfl rfl fun R' w' hw hs hd => by have a0 : R' 24 = .int .i64 x10 := hd 0 _ _ _ rfl rfl rfl rfl rfl; exact of_lss a0 rfl) <|
            Obls.nil
        intro R w hw hs hF'
        replace h0 : R 0 = v0 := (hs 0 rfl).trans h0
        replace h1 : R 1 = .int .i64 x10 := (hs 1 rfl).trans h1
        replace h5 : R 5 = .int .i64 y7 := (hs 5 rfl).trans h5
        have h25 : R 25 = .bool (decide (x10 < (0 : Int))) := hF' 1 _ _ rfl rfl rfl
        replace f_v0 := f_v0.fr hw
        replace hA := hA.fr hw.size
        replace hF := hF.trans hw
        clear hs hF' hw
        refine seqR_nil ?_
        refine HT.cond (decide (x10 < (0 : Int))) h25 (fun c12 => ?_) (fun c12 => ?_)
        · have hr := cnd_t c12 hr
          refine HT.seq ?_
          refine HT.text (l := ⟨_, true, .raw (.int .i64 (-1 : Int))⟩ :: []) (tl := []) (by kernel_rfl) (by kernel_rfl) (by kernel_rfl) ?_ ?_
          · exact
              Obls.cons (Obl.plain rfl rfl fun R' w' hw hs hd => by exact of_assign rfl) <|
              Obls.nil
          intro R w hw hs hF'
          have h4 : R 4 = .int .i64 (-1 : Int) := hF' 0 _ _ rfl rfl rfl
          replace hA := hA.fr hw.size
          replace hF := hF.trans hw
          clear hs hF' hw
          refine seqR_nil ?_
          refine HT.ret ?_
          obtain rfl := Option.some.inj hr
          have hr := hr0
          replace hr : some _ = some _ := hr
          obtain rfl := Option.some.inj hr
          exact ⟨.inr rfl, [R 4], ⟨rfl, trivial⟩, h4, hF⟩
        · have hr := cnd_f c12 hr
          refine HT.skip ?_
          obtain ⟨e13, hr⟩ := ck_some hr
          refine HT.text (l := ⟨_, true, .raw (.int .i64 y7)⟩ :: ⟨_, true, .raw (.int .i64 (y7 + (1 : Int)))⟩ :: ⟨_, true, .raw (.int .i64 (y7 + (1 : Int)))⟩ :: []) (tl := []) (by kernel_rfl) (by kernel_rfl) (by kernel_rfl) ?_ ?_
          · exact
              Obls.cons (Obl.plain rfl rfl fun R' w' hw hs hd => by have a0 : R' 5 = .int .i64 y7 := (hs 5 rfl).trans h5; exact of_move a0) <|
              Obls.cons (Obl.plain rfl rfl fun R' w' hw hs hd => by have a0 : R' 16 = .int .i64 y7 := hd 0 _ _ _ rfl rfl rfl rfl rfl; exact of_add a0 rfl e13) <|
              Obls.cons (Obl.plain rfl rfl fun R' w' hw hs hd => by have a0 : R' 17 = .int .i64 (y7 + (1 : Int)) := hd 0 _ _ _ rfl rfl rfl rfl rfl; exact of_assign a0) <|
              Obls.nil
          intro R w hw hs hF'
          replace h0 : R 0 = v0 := (hs 0 rfl).trans h0
          replace h1 : R 1 = .int .i64 x10 := (hs 1 rfl).trans h1
          have h5 : R 5 = .int .i64 (y7 + (1 : Int)) := hF' 2 _ _ rfl rfl rfl
          replace f_v0 := f_v0.fr hw
          replace hA := hA.fr hw.size
          replace hF := hF.trans hw
          clear hs hF' hw
          refine seqR_nil ?_
          exact Exists.intro k (And.intro (Nat.lt_succ_self k) ⟨_, _, hr, hA, hF, h0, h1, h5, f_v0⟩)
      · have hr := cnd_f c8 hr
        refine HT.exit ?_
        obtain rfl := Option.some.inj hr
        exact Exists.intro _ ⟨rfl, hA, hF, h1⟩
    rintro R w ⟨s5, rfl, hA, hF, h1⟩
    have hr := exM_go hr
    refine HT.seq ?_
    refine HT.text (l := ⟨_, true, .raw (.int .i64 s5)⟩ :: ⟨_, true, .raw (.int .i64 s5)⟩ :: []) (tl := []) (by kernel_rfl) (by kernel_rfl) (by kernel_rfl) ?_ ?_
    · exact
        Obls.cons (Obl.plain rfl rfl fun R' w' hw hs hd => by have a0 : R' 1 = .int .i64 s5 := (hs 1 rfl).trans h1; exact of_move a0) <|
        Obls.cons (Obl.plain rfl rfl fun R' w' hw hs hd => by have a0 : R' 26 = .int .i64 s5 := hd 0 _ _ _ rfl rfl rfl rfl rfl; exact of_assign a0) <|
        Obls.nil
    intro R w hw hs hF'
    have h4 : R 4 = .int .i64 s5 := hF' 1 _ _ rfl rfl rfl
    replace hA := hA.fr hw.size
    replace hF := hF.trans hw
    clear hs hF' hw
    refine seqR_nil ?_
    refine HT.ret ?_
    obtain rfl := Option.some.inj hr
    exact ⟨.inr rfl, [R 4], ⟨rfl, trivial⟩, h4, hF⟩
def M_laws_szSetIndex (fu : Nat) (p0 : T_laws_SetIndex) (p1 : Int) : Option Int :=
  cl true (M_laws_szTokenCountS fu p0.2.1 p1) fun x2 =>
  bif (decide (x2 < (0 : Int))) then (
    some (-1 : Int)
  ) else (
    cl true (M_laws_szIndexedSetS fu p0.2.2 x2) fun x5 =>
    bif (decide (x5 < (0 : Int))) then (
      some (-1 : Int)
    ) else (
      some x5
    )
  )
set_option maxRecDepth 100000 in
set_option maxHeartbeats 4000000 in
theorem M_laws_szSetIndex_ok {fu : Nat} {A0 : Av} {p0 : T_laws_SetIndex} {p1 : Int} {r : Int} (hr : M_laws_szSetIndex fu p0 p1 = some r) {w : World} {v0 : Value} {v1 : Value} (hA : AvOK A0 w) (h0 : Rep E_laws_SetIndex A0 w v0 p0) (h1 : v1 = .int .i64 p1) :
    Calls Try.prog 33 #[v0, v1] w fun e w' => ∃ v, e = .returned v ∧ (v = .int .i64 r ∧ Fr w w') := by
  unfold M_laws_szSetIndex at hr
  obtain ⟨w0, hw0⟩ : ∃ w0, w0 = w := ⟨_, rfl⟩
  have hF : Fr w0 w := hw0 ▸ Fr.refl _
  have hA0 : ∀ b o, A0 b o → b < w0.heap.size := fun b o h => hw0 ▸ hA b o h
  have hA00 : AvOK A0 w0 := hA0
  rw [show Fr w = Fr w0 from hw0 ▸ rfl]
  clear hw0
  obtain ⟨A, hAe⟩ : ∃ A, A = A0 := ⟨_, rfl⟩
  have hAA : ∀ b o, A0 b o → A b o := fun b o h => hAe ▸ h
  replace hA : AvOK A w := hAe ▸ hA
  have hO : IniOK [] A w := IniOK.nil
  refine calls_of_HT2 [.tmp 4] Try.func33 Try.ntmps33 (by decide) rfl rfl (Nat.le_of_ble_eq_true rfl) ?_
  intro R hR
  have f_v0 : Rep E_laws_SetIndex A w v0 p0 := hAe ▸ h0
  replace h0 : R 0 = v0 := hR 0 _ rfl
  replace h1 : R 1 = .int .i64 p1 := (hR 1 _ rfl).trans h1
  clear hR hAe
  refine HT.seq ?_
  refine HT.textR [] (⟨_, true, [], some (.box w0.heap.size 44 E_laws_SetIndex p0), true, fun A => .any⟩ :: ⟨_, true, [], none, true, fun A => .raw (.int .i64 (0 : Int))⟩ :: []) (by kernel_rfl) (by kernel_rfl) (Wf.mk' (by kernel_rfl) (UAll.cons ust_any (UAll.cons ust_raw (UAll.nil))) (by kernel_rfl) (by kernel_rfl)) hO hA ?_ ?_
  · exact
      OblsR.cons (OblR.made _ rfl rfl rfl rfl fun A' R' w' ho hd => by have a0 : R' 0 = v0 := (ho.old 0 rfl).trans h0; have ra0 := (f_v0.stp ho.stp).eq a0; exact made_box ra0 (Nat.le_trans hF.size ho.ch.size)) <|
      OblsR.cons (OblR.plain rfl rfl rfl rfl fun A' R' w' ho hd => by exact of_assign rfl) <|
      OblsR.nil
  intro done ρ σ A R w hdn hI
  replace h1 : R 1 = .int .i64 p1 := (hI.reg rfl).trans h1
  obtain ⟨b2_0, e_b2_0⟩ := hI.boxv hdn 0 rfl rfl
  have h2 : R 2 = (.pointer (some ⟨b2_0, 0, none⟩)) := (hI.opvR hdn 0 0 rfl rfl rfl rfl rfl).symm.trans e_b2_0
  replace hAA := hI.low' hAA hA0 (hO.ge (trivial))
  replace hF : Fr w0 w := hF.tr hI.ch (hO.ge (trivial))
  replace hO : IniOK [ob (.pointer (some ⟨b2_0, 0, none⟩)) (.box w0.heap.size 44 E_laws_SetIndex p0)] A w := hI.left hdn [(0, ob (.pointer (some ⟨b2_0, 0, none⟩)) (.box w0.heap.size 44 E_laws_SetIndex p0))] ⟨rfl, rfl, e_b2_0, rfl, rfl, trivial⟩
  replace hA := hI.avok
  clear hI
  refine HT.seq ?_
  obtain ⟨x2, q3, hr⟩ := cl_some hr
  refine HT.text (l := ⟨_, true, .raw (.pointer (some ⟨b2_0, 1, none⟩))⟩ :: ⟨_, true, .rep (eSl E_impl_TokenCount) A p0.2.1⟩ :: ⟨_, true, .raw (.int .i64 p1)⟩ :: ⟨_, true, .raw (.int .i64 x2)⟩ :: ⟨_, true, .raw (.int .i64 x2)⟩ :: []) (tl := []) (by kernel_rfl) (by kernel_rfl) (by kernel_rfl) ?_ ?_
  · exact
      Obls.cons (Obl.plain rfl rfl fun R' w' hw hs hd => by have a0 : R' 2 = (.pointer (some ⟨b2_0, 0, none⟩)) := (hs 2 rfl).trans h2; exact of_fieldAddr_raw a0 ff_44_1 Try.sizeOf22 (by decide) rfl) <|
      Obls.cons (Obl.plain rfl rfl fun R' w' hw hs hd => by have a0 : R' 5 = (.pointer (some ⟨b2_0, 1, none⟩)) := hd 0 _ _ _ rfl rfl rfl rfl rfl; exact (of_load_box ((hO.fr hw).ok 0 _ rfl).1 a0 fl_laws_SetIndex_1 rfl Try.isAgg22 Try.sizeOf22)) <|
      Obls.cons (Obl.plain rfl rfl fun R' w' hw hs hd => by have a0 : R' 1 = .int .i64 p1 := (hs 1 rfl).trans h1; exact of_move a0) <|
      Obls.cons (Obl.plain rfl rfl fun R' w' hw hs hd => by have a0 : Rep (eSl E_impl_TokenCount) A w' (R' 6) p0.2.1 := hd 0 _ _ _ rfl rfl rfl rfl rfl; have a1 : R' 7 = .int .i64 p1 := hd 1 _ _ _ rfl rfl rfl rfl rfl; exact of_call Try.call13 (M_laws_szTokenCountS_ok (q3 rfl) (hA.fr hw.size) a0 a1)) <|
      Obls.cons (Obl.plain rfl rfl fun R' w' hw hs hd => by have a0 : R' 8 = .int .i64 x2 := hd 0 _ _ _ rfl rfl rfl rfl rfl; exact of_assign a0) <|
      Obls.nil
  intro R w hw hs hF'
  replace h2 : R 2 = (.pointer (some ⟨b2_0, 0, none⟩)) := (hs 2 rfl).trans h2
  have h1 : R 1 = .int .i64 x2 := hF' 4 _ _ rfl rfl rfl
  replace hO := hO.fr hw
  replace hA := hA.fr hw.size
  replace hF := hF.trans hw
  clear hs hF' hw
  refine seqR_nil ?_
  refine HT.seq ?_
  refine HT.seq ?_
  refine HT.text (l := ⟨_, true, .raw (.int .i64 x2)⟩ :: ⟨_, true, .raw (.bool (decide (x2 < (0 : Int))))⟩ :: []) (tl := []) (by kernel_rfl) (by kernel_rfl) (by kernel_rfl) ?_ ?_
  · exact
      Obls.cons (Obl.plain rfl rfl fun R' w' hw hs hd => by have a0 : R' 1 = .int .i64 x2 := (hs 1 rfl).trans h1; exact of_move a0) <|
      Obls.cons (Obl.plain rfl rfl fun R' w' hw hs hd => by have a0 : R' 9 = .int .i64 x2 := hd 0 _ _ _ rfl rfl rfl rfl rfl; exact of_lss a0 rfl) <|
      Obls.nil
  intro R w hw hs hF'
  replace h1 : R 1 = .int .i64 x2 := (hs 1 rfl).trans h1
  replace h2 : R 2 = (.pointer (some ⟨b2_0, 0, none⟩)) := (hs 2 rfl).trans h2
  have h10 : R 10 = .bool (decide (x2 < (0 : Int))) := hF' 1 _ _ rfl rfl rfl
  replace hO := hO.fr hw
  replace hA := hA.fr hw.size
  replace hF := hF.trans hw
  clear hs hF' hw
  refine seqR_nil ?_
  refine HT.cond (decide (x2 < (0 : Int))) h10 (fun c4 => ?_) (fun c4 => ?_)
  · have hr := cnd_t c4 hr
    refine HT.seq ?_
    refine HT.text (l := ⟨_, true, .raw (.int .i64 (-1 : Int))⟩ :: []) (tl := []) (by kernel_rfl) (by kernel_rfl) (by kernel_rfl) ?_ ?_
    · exact
        Obls.cons (Obl.plain rfl rfl fun R' w' hw hs hd => by exact of_assign rfl) <|
        Obls.nil
    intro R w hw hs hF'
    have h4 : R 4 = .int .i64 (-1 : Int) := hF' 0 _ _ rfl rfl rfl
    replace hO := hO.fr hw
    replace hO : IniOK [] A w := hO.sub [] trivial
    replace hA := hA.fr hw.size
    replace hF := hF.trans hw
    clear hs hF' hw
    refine seqR_nil ?_
    refine HT.ret ?_
    obtain rfl := Option.some.inj hr
    exact ⟨.inr rfl, [R 4], ⟨rfl, trivial⟩, h4, hF⟩
  · have hr := cnd_f c4 hr
    refine HT.skip ?_
    refine HT.seq ?_
    obtain ⟨x5, q6, hr⟩ := cl_some hr
    refine HT.text (l := ⟨_, true, .raw (.pointer (some ⟨b2_0, 2, none⟩))⟩ :: ⟨_, true, .rep (eSl E_impl_IndexedSet) A p0.2.2⟩ :: ⟨_, true, .raw (.int .i64 x2)⟩ :: ⟨_, true, .raw (.int .i64 x5)⟩ :: ⟨_, true, .raw (.int .i64 x5)⟩ :: []) (tl := []) (by kernel_rfl) (by kernel_rfl) (by kernel_rfl) ?_ ?_
    · exact
        Obls.cons (Obl.plain rfl rfl fun R' w' hw hs hd => by have a0 : R' 2 = (.pointer (some ⟨b2_0, 0, none⟩)) := (hs 2 rfl).trans h2; exact of_fieldAddr_raw a0 ff_44_2 Try.sizeOf42 (by decide) rfl) <|
        Obls.cons (Obl.plain rfl rfl fun R' w' hw hs hd => by have a0 : R' 11 = (.pointer (some ⟨b2_0, 2, none⟩)) := hd 0 _ _ _ rfl rfl rfl rfl rfl; exact (of_load_box ((hO.fr hw).ok 0 _ rfl).1 a0 fl_laws_SetIndex_2 rfl Try.isAgg42 Try.sizeOf42)) <|
        Obls.cons (Obl.plain rfl rfl fun R' w' hw hs hd => by have a0 : R' 1 = .int .i64 x2 := (hs 1 rfl).trans h1; exact of_move a0) <|
        Obls.cons (Obl.plain rfl rfl fun R' w' hw hs hd => by have a0 : Rep (eSl E_impl_IndexedSet) A w' (R' 12) p0.2.2 := hd 0 _ _ _ rfl rfl rfl rfl rfl; have a1 : R' 13 = .int .i64 x2 := hd 1 _ _ _ rfl rfl rfl rfl rfl; exact of_call Try.call78 (M_laws_szIndexedSetS_ok (q6 rfl) (hA.fr hw.size) a0 a1)) <|
        Obls.cons (Obl.plain rfl rfl fun R' w' hw hs hd => by have a0 : R' 14 = .int .i64 x5 := hd 0 _ _ _ rfl rfl rfl rfl rfl; exact of_assign a0) <|
        Obls.nil
    intro R w hw hs hF'
    have h1 : R 1 = .int .i64 x5 := hF' 4 _ _ rfl rfl rfl
    replace hO := hO.fr hw
    replace hO : IniOK [] A w := hO.sub [] trivial
    replace hA := hA.fr hw.size
    replace hF := hF.trans hw
    clear hs hF' hw
    refine seqR_nil ?_
    refine HT.seq ?_
    refine HT.seq ?_
    refine HT.text (l := ⟨_, true, .raw (.int .i64 x5)⟩ :: ⟨_, true, .raw (.bool (decide (x5 < (0 : Int))))⟩ :: []) (tl := []) (by kernel_rfl) (by kernel_rfl) (by kernel_rfl) ?_ ?_
    · exact
        Obls.cons (Obl.plain rfl rfl fun R' w' hw hs hd => by have a0 : R' 1 = .int .i64 x5 := (hs 1 rfl).trans h1; exact of_move a0) <|
        Obls.cons (Obl.plain rfl rfl fun R' w' hw hs hd => by have a0 : R' 15 = .int .i64 x5 := hd 0 _ _ _ rfl rfl rfl rfl rfl; exact of_lss a0 rfl) <|
        Obls.nil
    intro R w hw hs hF'
    replace h1 : R 1 = .int .i64 x5 := (hs 1 rfl).trans h1
    have h16 : R 16 = .bool (decide (x5 < (0 : Int))) := hF' 1 _ _ rfl rfl rfl
    replace hO := hO.fr hw
    replace hA := hA.fr hw.size
    replace hF := hF.trans hw
    clear hs hF' hw
    refine seqR_nil ?_
    refine HT.cond (decide (x5 < (0 : Int))) h16 (fun c7 => ?_) (fun c7 => ?_)
    · have hr := cnd_t c7 hr
      refine HT.seq ?_
      refine HT.text (l := ⟨_, true, .raw (.int .i64 (-1 : Int))⟩ :: []) (tl := []) (by kernel_rfl) (by kernel_rfl) (by kernel_rfl) ?_ ?_
      · exact
          Obls.cons (Obl.plain rfl rfl fun R' w' hw hs hd => by exact of_assign rfl) <|
          Obls.nil
      intro R w hw hs hF'
      have h4 : R 4 = .int .i64 (-1 : Int) := hF' 0 _ _ rfl rfl rfl
      replace hO := hO.fr hw
      replace hA := hA.fr hw.size
      replace hF := hF.trans hw
      clear hs hF' hw
      refine seqR_nil ?_
      refine HT.ret ?_
      obtain rfl := Option.some.inj hr
      exact ⟨.inr rfl, [R 4], ⟨rfl, trivial⟩, h4, hF⟩
    · have hr := cnd_f c7 hr
      refine HT.skip ?_
      refine HT.seq ?_
      refine HT.text (l := ⟨_, true, .raw (.int .i64 x5)⟩ :: ⟨_, true, .raw (.int .i64 x5)⟩ :: []) (tl := []) (by kernel_rfl) (by kernel_rfl) (by kernel_rfl) ?_ ?_
      · exact
          Obls.cons (Obl.plain rfl rfl fun R' w' hw hs hd => by have a0 : R' 1 = .int .i64 x5 := (hs 1 rfl).trans h1; exact of_move a0) <|
          Obls.cons (Obl.plain rfl rfl fun R' w' hw hs hd => by have a0 : R' 17 = .int .i64 x5 := hd 0 _ _ _ rfl rfl rfl rfl rfl; exact of_assign a0) <|
          Obls.nil
      intro R w hw hs hF'
      have h4 : R 4 = .int .i64 x5 := hF' 1 _ _ rfl rfl rfl
      replace hO := hO.fr hw
      replace hA := hA.fr hw.size
      replace hF := hF.trans hw
      clear hs hF' hw
      refine seqR_nil ?_
      refine HT.ret ?_
      obtain rfl := Option.some.inj hr
      exact ⟨.inr rfl, [R 4], ⟨rfl, trivial⟩, h4, hF⟩
def M_laws_toTokenCount (fu : Nat) (p0 : T_impl_TokenCount) : Option T_impl_TokenCount :=
  some (p0.1, p0.2)
set_option maxRecDepth 100000 in
set_option maxHeartbeats 4000000 in
theorem M_laws_toTokenCount_ok {fu : Nat} {A0 : Av} {p0 : T_impl_TokenCount} {r : T_impl_TokenCount} (hr : M_laws_toTokenCount fu p0 = some r) {w : World} {v0 : Value} (hA : AvOK A0 w) (h0 : Rep E_impl_TokenCount A0 w v0 p0) :
    Calls Try.prog 60 #[v0] w fun e w' => ∃ v, e = .returned v ∧ (Rep E_impl_TokenCount A0 w' v r ∧ Fr w w') := by
  unfold M_laws_toTokenCount at hr
  obtain ⟨w0, hw0⟩ : ∃ w0, w0 = w := ⟨_, rfl⟩
  have hF : Fr w0 w := hw0 ▸ Fr.refl _
  have hA0 : ∀ b o, A0 b o → b < w0.heap.size := fun b o h => hw0 ▸ hA b o h
  have hA00 : AvOK A0 w0 := hA0
  rw [show Fr w = Fr w0 from hw0 ▸ rfl]
  clear hw0
  obtain ⟨A, hAe⟩ : ∃ A, A = A0 := ⟨_, rfl⟩
  have hAA : ∀ b o, A0 b o → A b o := fun b o h => hAe ▸ h
  replace hA : AvOK A w := hAe ▸ hA
  have hO : IniOK [] A w := IniOK.nil
  refine calls_of_HT2 [.cell 2 76] Try.func60 Try.ntmps60 (by decide) rfl rfl (Nat.le_of_ble_eq_true rfl) ?_
  intro R hR
  have f_v0 : Rep E_impl_TokenCount A w v0 p0 := hAe ▸ h0
  replace h0 : R 0 = v0 := hR 0 _ rfl
  clear hR hAe
  refine HT.seq ?_
  refine HT.textR [] (⟨_, true, [], some (.box w0.heap.size 74 E_impl_TokenCount p0), true, fun A => .any⟩ :: ⟨_, true, [], some (.box w0.heap.size 76 E_impl_TokenCount (([] : List UInt8), (0 : Int))), true, fun A => .any⟩ :: []) (by kernel_rfl) (by kernel_rfl) (Wf.mk' (by kernel_rfl) (UAll.cons ust_any (UAll.cons ust_any (UAll.nil))) (by kernel_rfl) (by kernel_rfl)) hO hA ?_ ?_
  · exact
      OblsR.cons (OblR.made _ rfl rfl rfl rfl fun A' R' w' ho hd => by have a0 : R' 0 = v0 := (ho.old 0 rfl).trans h0; have ra0 := (f_v0.stp ho.stp).eq a0; exact made_box ra0 (Nat.le_trans hF.size ho.ch.size)) <|
      OblsR.cons (OblR.made _ rfl rfl rfl rfl fun A' R' w' ho hd => by exact made_alloc Try.zeroValue76 (fun A w => rep_pr (rep1_str rfl (by decide)) rep1_int) (Nat.le_trans hF.size ho.ch.size)) <|
      OblsR.nil
  intro done ρ σ A R w hdn hI
  obtain ⟨b1_0, e_b1_0⟩ := hI.boxv hdn 0 rfl rfl
  have h1 : R 1 = (.pointer (some ⟨b1_0, 0, none⟩)) := (hI.opvR hdn 0 0 rfl rfl rfl rfl rfl).symm.trans e_b1_0
  obtain ⟨b2_1, e_b2_1⟩ := hI.boxv hdn 1 rfl rfl
  have h2 : R 2 = (.pointer (some ⟨b2_1, 0, none⟩)) := (hI.opvR hdn 1 1 rfl rfl rfl rfl rfl).symm.trans e_b2_1
  replace hAA := hI.low' hAA hA0 (hO.ge (trivial))
  replace hF : Fr w0 w := hF.tr hI.ch (hO.ge (trivial))
  replace hO : IniOK [ob (.pointer (some ⟨b1_0, 0, none⟩)) (.box w0.heap.size 74 E_impl_TokenCount p0), ob (.pointer (some ⟨b2_1, 0, none⟩)) (.box w0.heap.size 76 E_impl_TokenCount (([] : List UInt8), (0 : Int)))] A w := hI.left hdn [(0, ob (.pointer (some ⟨b1_0, 0, none⟩)) (.box w0.heap.size 74 E_impl_TokenCount p0)), (1, ob (.pointer (some ⟨b2_1, 0, none⟩)) (.box w0.heap.size 76 E_impl_TokenCount (([] : List UInt8), (0 : Int))))] ⟨rfl, rfl, e_b1_0, rfl, rfl, ⟨rfl, rfl, e_b2_1, rfl, rfl, trivial⟩⟩
  replace hA := hI.avok
  clear hI
  refine HT.seq ?_
  refine HT.textR [ob (.pointer (some ⟨b1_0, 0, none⟩)) (.box w0.heap.size 74 E_impl_TokenCount p0), ob (.pointer (some ⟨b2_1, 0, none⟩)) (.box w0.heap.size 76 E_impl_TokenCount (([] : List UInt8), (0 : Int)))] (⟨_, true, [], some (.box w0.heap.size 76 E_impl_TokenCount (([] : List UInt8), (0 : Int))), true, fun A => .any⟩ :: []) (by kernel_rfl) (by kernel_rfl) (Wf.mk' (by kernel_rfl) (UAll.cons ust_any (UAll.nil)) (by kernel_rfl) (by kernel_rfl)) hO hA ?_ ?_
  · exact
      OblsR.cons (OblR.made _ rfl rfl rfl rfl fun A' R' w' ho hd => by exact made_alloc Try.zeroValue76 (fun A w => rep_pr (rep1_str rfl (by decide)) rep1_int) (Nat.le_trans hF.size ho.ch.size)) <|
      OblsR.nil
  intro done ρ σ A R w hdn hI
  replace h1 : R 1 = (.pointer (some ⟨b1_0, 0, none⟩)) := (hI.reg rfl).trans h1
  replace h2 : R 2 = (.pointer (some ⟨b2_1, 0, none⟩)) := (hI.reg rfl).trans h2
  have z3 := hI.inivR 0 rfl
  have z4 := hI.inivR 1 rfl
  obtain ⟨b3_4, e_b3_4⟩ := hI.boxv hdn 2 rfl rfl
  have h3 : R 3 = (.pointer (some ⟨b3_4, 0, none⟩)) := (hI.opvR hdn 2 0 rfl rfl rfl rfl rfl).symm.trans e_b3_4
  replace hAA := hI.low' hAA hA0 (hO.ge (⟨rfl, ⟨rfl, trivial⟩⟩))
  replace hF : Fr w0 w := hF.tr hI.ch (hO.ge (⟨rfl, ⟨rfl, trivial⟩⟩))
  replace hO : IniOK [ob (.pointer (some ⟨b1_0, 0, none⟩)) (.box w0.heap.size 74 E_impl_TokenCount p0), ob (.pointer (some ⟨b2_1, 0, none⟩)) (.box w0.heap.size 76 E_impl_TokenCount (([] : List UInt8), (0 : Int))), ob (.pointer (some ⟨b3_4, 0, none⟩)) (.box w0.heap.size 76 E_impl_TokenCount (([] : List UInt8), (0 : Int)))] A w := hI.left hdn [(0, ob (.pointer (some ⟨b1_0, 0, none⟩)) (.box w0.heap.size 74 E_impl_TokenCount p0)), (1, ob (.pointer (some ⟨b2_1, 0, none⟩)) (.box w0.heap.size 76 E_impl_TokenCount (([] : List UInt8), (0 : Int)))), (2, ob (.pointer (some ⟨b3_4, 0, none⟩)) (.box w0.heap.size 76 E_impl_TokenCount (([] : List UInt8), (0 : Int))))] ⟨rfl, rfl, z3, rfl, rfl, ⟨rfl, rfl, z4, rfl, rfl, ⟨rfl, rfl, e_b3_4, rfl, rfl, trivial⟩⟩⟩
  replace hA := hI.avok
  clear hI
  refine HT.seq ?_
  refine HT.textR [ob (.pointer (some ⟨b1_0, 0, none⟩)) (.box w0.heap.size 74 E_impl_TokenCount p0), ob (.pointer (some ⟨b2_1, 0, none⟩)) (.box w0.heap.size 76 E_impl_TokenCount (([] : List UInt8), (0 : Int))), ob (.pointer (some ⟨b3_4, 0, none⟩)) (.box w0.heap.size 76 E_impl_TokenCount (([] : List UInt8), (0 : Int)))] (⟨_, true, [], none, true, fun A => .raw (.pointer (some ⟨b1_0, 0, none⟩))⟩ :: ⟨_, true, [], none, true, fun A => .rep eStr A p0.1⟩ :: ⟨_, true, [], none, true, fun A => .raw (.pointer (some ⟨b3_4, 0, none⟩))⟩ :: ⟨_, true, [2], some (.box w0.heap.size 76 E_impl_TokenCount (p0.1, (0 : Int))), false, fun A => .any⟩ :: []) (by kernel_rfl) (by kernel_rfl) (Wf.mk' (by kernel_rfl) (UAll.cons ust_raw (UAll.cons ust_rep (UAll.cons ust_raw (UAll.cons ust_any (UAll.nil))))) (by kernel_rfl) (by kernel_rfl)) hO hA ?_ ?_
  · exact
      OblsR.cons (OblR.plain rfl rfl rfl rfl fun A' R' w' ho hd => by have a0 : R' 1 = (.pointer (some ⟨b1_0, 0, none⟩)) := (ho.old 1 rfl).trans h1; exact of_fieldAddr_raw a0 ff_74_0 Try.sizeOf9 (by decide) rfl) <|
      OblsR.cons (OblR.plain rfl rfl rfl rfl fun A' R' w' ho hd => by have a0 : R' 4 = (.pointer (some ⟨b1_0, 0, none⟩)) := hd 0 _ _ _ rfl rfl rfl rfl rfl; exact (of_load_box (ho.rd 0 _ rfl rfl) a0 fl_impl_TokenCount_0 rfl Try.isAgg9 Try.sizeOf9)) <|
      OblsR.cons (OblR.plain rfl rfl rfl rfl fun A' R' w' ho hd => by have a0 : R' 3 = (.pointer (some ⟨b3_4, 0, none⟩)) := (ho.old 3 rfl).trans h3; exact of_fieldAddr_raw a0 ff_76_0 Try.sizeOf9 (by decide) rfl) <|
      OblsR.cons (OblR.took 2 _ _ rfl rfl rfl rfl rfl fun A' R' w' ho hd u hok hav hin hop hds => by have a0 : R' 6 = (.pointer (some ⟨b3_4, 0, none⟩)) := hd 0 _ _ _ rfl rfl rfl rfl rfl; have a1 : Rep eStr A' w' (R' 5) p0.1 := hd 1 _ _ _ rfl rfl rfl rfl rfl; exact took_store a1 a0 (hin _ rfl) hok hav fs_impl_TokenCount_0 Try.sizeOf9 rfl) <|
      OblsR.nil
  intro done ρ σ A R w hdn hI
  replace h1 : R 1 = (.pointer (some ⟨b1_0, 0, none⟩)) := (hI.reg rfl).trans h1
  replace h2 : R 2 = (.pointer (some ⟨b2_1, 0, none⟩)) := (hI.reg rfl).trans h2
  replace h3 : R 3 = (.pointer (some ⟨b3_4, 0, none⟩)) := (hI.reg rfl).trans h3
  have z6 := hI.inivR 0 rfl
  have z7 := hI.inivR 1 rfl
  have z8 := hI.inivR 2 rfl
  have z9 := (hI.opnR hdn 6 3 rfl rfl rfl rfl rfl).trans z8
  replace hAA := hI.low' hAA hA0 (hO.ge (⟨rfl, ⟨rfl, ⟨rfl, trivial⟩⟩⟩))
  replace hF : Fr w0 w := hF.tr hI.ch (hO.ge (⟨rfl, ⟨rfl, ⟨rfl, trivial⟩⟩⟩))
  replace hO : IniOK [ob (.pointer (some ⟨b1_0, 0, none⟩)) (.box w0.heap.size 74 E_impl_TokenCount p0), ob (.pointer (some ⟨b2_1, 0, none⟩)) (.box w0.heap.size 76 E_impl_TokenCount (([] : List UInt8), (0 : Int))), ob (.pointer (some ⟨b3_4, 0, none⟩)) (.box w0.heap.size 76 E_impl_TokenCount (p0.1, (0 : Int)))] A w := hI.left hdn [(0, ob (.pointer (some ⟨b1_0, 0, none⟩)) (.box w0.heap.size 74 E_impl_TokenCount p0)), (1, ob (.pointer (some ⟨b2_1, 0, none⟩)) (.box w0.heap.size 76 E_impl_TokenCount (([] : List UInt8), (0 : Int)))), (6, ob (.pointer (some ⟨b3_4, 0, none⟩)) (.box w0.heap.size 76 E_impl_TokenCount (p0.1, (0 : Int))))] ⟨rfl, rfl, z6, rfl, rfl, ⟨rfl, rfl, z7, rfl, rfl, ⟨rfl, rfl, z9, rfl, rfl, trivial⟩⟩⟩
  replace hA := hI.avok
  clear hI
  refine HT.seq ?_
  refine HT.textR [ob (.pointer (some ⟨b1_0, 0, none⟩)) (.box w0.heap.size 74 E_impl_TokenCount p0), ob (.pointer (some ⟨b2_1, 0, none⟩)) (.box w0.heap.size 76 E_impl_TokenCount (([] : List UInt8), (0 : Int))), ob (.pointer (some ⟨b3_4, 0, none⟩)) (.box w0.heap.size 76 E_impl_TokenCount (p0.1, (0 : Int)))] (⟨_, true, [], none, true, fun A => .raw (.pointer (some ⟨b1_0, 1, none⟩))⟩ :: ⟨_, true, [], none, true, fun A => .raw (.int .i64 p0.2)⟩ :: ⟨_, true, [], none, true, fun A => .raw (.pointer (some ⟨b3_4, 1, none⟩))⟩ :: ⟨_, true, [2], some (.box w0.heap.size 76 E_impl_TokenCount (p0.1, p0.2)), false, fun A => .any⟩ :: []) (by kernel_rfl) (by kernel_rfl) (Wf.mk' (by kernel_rfl) (UAll.cons ust_raw (UAll.cons ust_raw (UAll.cons ust_raw (UAll.cons ust_any (UAll.nil))))) (by kernel_rfl) (by kernel_rfl)) hO hA ?_ ?_
  · exact
      OblsR.cons (OblR.plain rfl rfl rfl rfl fun A' R' w' ho hd => by have a0 : R' 1 = (.pointer (some ⟨b1_0, 0, none⟩)) := (ho.old 1 rfl).trans h1; exact of_fieldAddr_raw a0 ff_74_1 Try.sizeOf3 (by decide) rfl) <|
      OblsR.cons (OblR.plain rfl rfl rfl rfl fun A' R' w' ho hd => by have a0 : R' 7 = (.pointer (some ⟨b1_0, 1, none⟩)) := hd 0 _ _ _ rfl rfl rfl rfl rfl; exact OpF.int (of_load_box (ho.rd 0 _ rfl rfl) a0 fl_impl_TokenCount_1 rfl Try.isAgg3 Try.sizeOf3)) <|
      OblsR.cons (OblR.plain rfl rfl rfl rfl fun A' R' w' ho hd => by have a0 : R' 3 = (.pointer (some ⟨b3_4, 0, none⟩)) := (ho.old 3 rfl).trans h3; exact of_fieldAddr_raw a0 ff_76_1 Try.sizeOf3 (by decide) rfl) <|
      OblsR.cons (OblR.took 2 _ _ rfl rfl rfl rfl rfl fun A' R' w' ho hd u hok hav hin hop hds => by have a0 : R' 9 = (.pointer (some ⟨b3_4, 1, none⟩)) := hd 0 _ _ _ rfl rfl rfl rfl rfl; have a1 : R' 8 = .int .i64 p0.2 := hd 1 _ _ _ rfl rfl rfl rfl rfl; exact took_store (rep_int.eq a1) a0 (hin _ rfl) hok hav fs_impl_TokenCount_1 Try.sizeOf3 rfl) <|
      OblsR.nil
  intro done ρ σ A R w hdn hI
  replace h2 : R 2 = (.pointer (some ⟨b2_1, 0, none⟩)) := (hI.reg rfl).trans h2
  replace h3 : R 3 = (.pointer (some ⟨b3_4, 0, none⟩)) := (hI.reg rfl).trans h3
  have z10 := hI.inivR 0 rfl
  have z11 := hI.inivR 1 rfl
  have z12 := hI.inivR 2 rfl
  have z13 := (hI.opnR hdn 6 3 rfl rfl rfl rfl rfl).trans z12
  replace hAA := hI.low' hAA hA0 (hO.ge (⟨rfl, ⟨rfl, ⟨rfl, trivial⟩⟩⟩))
  replace hF : Fr w0 w := hF.tr hI.ch (hO.ge (⟨rfl, ⟨rfl, ⟨rfl, trivial⟩⟩⟩))
  replace hO : IniOK [ob (.pointer (some ⟨b2_1, 0, none⟩)) (.box w0.heap.size 76 E_impl_TokenCount (([] : List UInt8), (0 : Int))), ob (.pointer (some ⟨b3_4, 0, none⟩)) (.box w0.heap.size 76 E_impl_TokenCount (p0.1, p0.2))] A w := hI.left hdn [(1, ob (.pointer (some ⟨b2_1, 0, none⟩)) (.box w0.heap.size 76 E_impl_TokenCount (([] : List UInt8), (0 : Int)))), (6, ob (.pointer (some ⟨b3_4, 0, none⟩)) (.box w0.heap.size 76 E_impl_TokenCount (p0.1, p0.2)))] ⟨rfl, rfl, z11, rfl, rfl, ⟨rfl, rfl, z13, rfl, rfl, trivial⟩⟩
  replace hA := hI.avok
  clear hI
  refine HT.seq ?_
  refine HT.textR [ob (.pointer (some ⟨b2_1, 0, none⟩)) (.box w0.heap.size 76 E_impl_TokenCount (([] : List UInt8), (0 : Int))), ob (.pointer (some ⟨b3_4, 0, none⟩)) (.box w0.heap.size 76 E_impl_TokenCount (p0.1, p0.2))] (⟨_, true, [], none, true, fun A => .rep E_impl_TokenCount A (p0.1, p0.2)⟩ :: ⟨_, true, [0], some (.box w0.heap.size 76 E_impl_TokenCount (p0.1, p0.2)), false, fun A => .any⟩ :: []) (by kernel_rfl) (by kernel_rfl) (Wf.mk' (by kernel_rfl) (UAll.cons ust_rep (UAll.cons ust_any (UAll.nil))) (by kernel_rfl) (by kernel_rfl)) hO hA ?_ ?_
  · exact
      OblsR.cons (OblR.plain rfl rfl rfl rfl fun A' R' w' ho hd => by have a0 : R' 3 = (.pointer (some ⟨b3_4, 0, none⟩)) := (ho.old 3 rfl).trans h3; exact (of_load_box (ho.rd 1 _ rfl rfl) a0 (Fld.id _) rfl Try.isAgg76 Try.sizeOf76)) <|
      OblsR.cons (OblR.took 0 _ _ rfl rfl rfl rfl rfl fun A' R' w' ho hd u hok hav hin hop hds => by have a0 : R' 2 = (.pointer (some ⟨b2_1, 0, none⟩)) := (ho.old 2 rfl).trans h2; have a1 : Rep E_impl_TokenCount A' w' (R' 10) (p0.1, p0.2) := hd 0 _ _ _ rfl rfl rfl rfl rfl; exact took_store a1 a0 (hin _ rfl) hok hav (FldS.id _) Try.sizeOf76 rfl) <|
      OblsR.nil
  intro done ρ σ A R w hdn hI
  replace h2 : R 2 = (.pointer (some ⟨b2_1, 0, none⟩)) := (hI.reg rfl).trans h2
  have z14 := hI.inivR 0 rfl
  have z15 := (hI.opnR hdn 3 1 rfl rfl rfl rfl rfl).trans z14
  have z16 := hI.inivR 1 rfl
  replace hAA := hI.low' hAA hA0 (hO.ge (⟨rfl, ⟨rfl, trivial⟩⟩))
  replace hF : Fr w0 w := hF.tr hI.ch (hO.ge (⟨rfl, ⟨rfl, trivial⟩⟩))
  replace hO : IniOK [ob (.pointer (some ⟨b2_1, 0, none⟩)) (.box w0.heap.size 76 E_impl_TokenCount (p0.1, p0.2))] A w := hI.left hdn [(3, ob (.pointer (some ⟨b2_1, 0, none⟩)) (.box w0.heap.size 76 E_impl_TokenCount (p0.1, p0.2)))] ⟨rfl, rfl, z15, rfl, rfl, trivial⟩
  replace hA := hI.avok
  clear hI
  refine HT.ret ?_
  obtain rfl := Option.some.inj hr
  obtain ⟨v_2, e_2, p_2⟩ := res_cell (hO.ok 0 _ rfl).1 h2 Try.isAgg76 Try.sizeOf76 hAA
  exact ⟨.inr rfl, [v_2], ⟨e_2, trivial⟩, p_2, hF⟩
def M_laws_toTokenCountS_L0 (fu : Nat) (p0 : List T_impl_TokenCount) : Nat → Int → (List T_impl_TokenCount) → Option (List T_impl_TokenCount)
  | 0, _, _ => none
  | k + 1, y6, y7 =>
    bif (decide (y6 < (p0.length : Int))) then (
      ck (inR y6 p0.length) <|
      cl true (M_laws_toTokenCount fu (gtD p0 y6)) fun x10 =>
      ck (inR y6 y7.length) <|
      ck (i64B (y6 + (1 : Int))) <|
      M_laws_toTokenCountS_L0 fu p0 k (y6 + (1 : Int)) (y7.set y6.toNat x10)
    ) else (
      some y7
    )
def M_laws_toTokenCountS (fu : Nat) (p0 : List T_impl_TokenCount) : Option (List T_impl_TokenCount) :=
  ck (mkOK (p0.length : Int)) <|
  cl true (M_laws_toTokenCountS_L0 fu p0 fu (0 : Int) (List.replicate (p0.length : Int).toNat (([] : List UInt8), (0 : Int)))) fun s5 =>
  some s5
set_option maxRecDepth 100000 in
set_option maxHeartbeats 4000000 in
theorem M_laws_toTokenCountS_ok {fu : Nat} {A0 : Av} {p0 : List T_impl_TokenCount} {r : List T_impl_TokenCount} (hr : M_laws_toTokenCountS fu p0 = some r) {w : World} {v0 : Value} (hA : AvOK A0 w) (h0 : Rep (eSl E_impl_TokenCount) A0 w v0 p0) :
    Calls Try.prog 16 #[v0] w fun e w' => ∃ v, e = .returned v ∧ ((Res.vec w.heap.size 76 E_impl_TokenCount r).ok (addA A0 v) v w' ∧ Fr w w') := by
  unfold M_laws_toTokenCountS at hr
  obtain ⟨w0, hw0⟩ : ∃ w0, w0 = w := ⟨_, rfl⟩
  have hF : Fr w0 w := hw0 ▸ Fr.refl _
  have hA0 : ∀ b o, A0 b o → b < w0.heap.size := fun b o h => hw0 ▸ hA b o h
  have hA00 : AvOK A0 w0 := hA0
  rw [show w.heap.size = w0.heap.size from hw0 ▸ rfl]
  rw [show Fr w = Fr w0 from hw0 ▸ rfl]
  clear hw0
  obtain ⟨A, hAe⟩ : ∃ A, A = A0 := ⟨_, rfl⟩
  have hAA : ∀ b o, A0 b o → A b o := fun b o h => hAe ▸ h
  replace hA : AvOK A w := hAe ▸ hA
  have hO : IniOK [] A w := IniOK.nil
  refine calls_of_HT2 [.tmp 2] Try.func16 Try.ntmps16 (by decide) rfl rfl (Nat.le_of_ble_eq_true rfl) ?_
  intro R hR
  have f_v0 : Rep (eSl E_impl_TokenCount) A w v0 p0 := hAe ▸ h0
  replace h0 : R 0 = v0 := hR 0 _ rfl
  clear hR hAe
  refine HT.seq ?_
  refine HT.text (l := ⟨_, true, .any⟩ :: []) (tl := []) (by kernel_rfl) (by kernel_rfl) (by kernel_rfl) ?_ ?_
  · exact
      Obls.cons (Obl.plain rfl rfl fun R' w' hw hs hd => by exact of_assign trivial) <|
      Obls.nil
  intro R w hw hs hF'
  replace h0 : R 0 = v0 := (hs 0 rfl).trans h0
  replace f_v0 := f_v0.fr hw
  replace hO := hO.fr hw
  replace hA := hA.fr hw.size
  replace hF := hF.trans hw
  clear hs hF' hw
  refine seqR_nil ?_
  refine HT.seq ?_
  obtain ⟨e1, hr⟩ := ck_some hr
  refine HT.textR [] (⟨_, true, [], none, true, fun A => .raw v0⟩ :: ⟨_, true, [], none, true, fun A => .raw (.int .i64 (p0.length : Int))⟩ :: ⟨_, true, [], some (.vec w0.heap.size 76 E_impl_TokenCount (List.replicate (p0.length : Int).toNat (([] : List UInt8), (0 : Int)))), true, fun A => .any⟩ :: ⟨_, true, [2], some (.vec w0.heap.size 76 E_impl_TokenCount (List.replicate (p0.length : Int).toNat (([] : List UInt8), (0 : Int)))), true, fun A => .any⟩ :: []) (by kernel_rfl) (by kernel_rfl) (Wf.mk' (by kernel_rfl) (UAll.cons ust_raw (UAll.cons ust_raw (UAll.cons ust_any (UAll.cons ust_any (UAll.nil))))) (by kernel_rfl) (by kernel_rfl)) hO hA ?_ ?_
  · exact
      OblsR.cons (OblR.plain rfl rfl rfl rfl fun A' R' w' ho hd => by have a0 : R' 0 = v0 := (ho.old 0 rfl).trans h0; exact of_move a0) <|
      OblsR.cons (OblR.plain rfl rfl rfl rfl fun A' R' w' ho hd => by have a0 : R' 5 = v0 := hd 0 _ _ _ rfl rfl rfl rfl rfl; have ra0 := (f_v0.stp ho.stp).eq a0; exact of_len_sl (aT := #[]) ra0 Try.underlying22) <|
      OblsR.cons (OblR.made _ rfl rfl rfl rfl fun A' R' w' ho hd => by have a0 : R' 6 = .int .i64 (p0.length : Int) := hd 0 _ _ _ rfl rfl rfl rfl rfl; have a1 : R' 6 = .int .i64 (p0.length : Int) := hd 0 _ _ _ rfl rfl rfl rfl rfl; exact made_make a0 a1 e1 Try.underlying27 el_76 Try.zeroValue76 (fun A w => rep_pr (rep1_str rfl (by decide)) rep1_int) (Nat.le_trans hF.size ho.ch.size)) <|
      OblsR.cons (OblR.took 2 _ _ rfl rfl rfl rfl rfl fun A' R' w' ho hd u hok hav hin hop hds => by exact took_assign (hop _ _ rfl rfl rfl rfl).symm hok hav) <|
      OblsR.nil
  intro done ρ σ A R w hdn hI
  replace h0 : R 0 = v0 := (hI.reg rfl).trans h0
  obtain ⟨u2, e_u2⟩ : ∃ u, ρ 3 = u := ⟨_, rfl⟩
  have h3 : R 3 = u2 := (hI.opvR hdn 3 3 rfl rfl rfl rfl rfl).symm.trans e_u2
  replace f_v0 := f_v0.stp hI.stp
  replace hAA := hI.low' hAA hA0 (hO.ge (trivial))
  replace hF : Fr w0 w := hF.tr hI.ch (hO.ge (trivial))
  replace hO : IniOK [ob u2 (.vec w0.heap.size 76 E_impl_TokenCount (List.replicate (p0.length : Int).toNat (([] : List UInt8), (0 : Int))))] A w := hI.left hdn [(3, ob u2 (.vec w0.heap.size 76 E_impl_TokenCount (List.replicate (p0.length : Int).toNat (([] : List UInt8), (0 : Int)))))] ⟨rfl, rfl, e_u2, rfl, rfl, trivial⟩
  replace hA := hI.avok
  clear hI
  refine HT.seq ?_
  refine HT.seq ?_
  refine HT.text (l := ⟨_, true, .raw (.int .i64 (0 : Int))⟩ :: []) (tl := []) (by kernel_rfl) (by kernel_rfl) (by kernel_rfl) ?_ ?_
  · exact
      Obls.cons (Obl.plain rfl rfl fun R' w' hw hs hd => by exact of_assign rfl) <|
      Obls.nil
  intro R w hw hs hF'
  replace h0 : R 0 = v0 := (hs 0 rfl).trans h0
  replace h3 : R 3 = u2 := (hs 3 rfl).trans h3
  have h4 : R 4 = .int .i64 (0 : Int) := hF' 0 _ _ rfl rfl rfl
  replace f_v0 := f_v0.fr hw
  replace hO := hO.fr hw
  replace hA := hA.fr hw.size
  replace hF := hF.trans hw
  clear hs hF' hw
  refine seqR_nil ?_
  obtain ⟨rl3, q4, hr⟩ := cl_some hr
  replace q4 := q4 rfl
  refine HT.cut0 (fun R w => ∃ A : Av, ∃ (s5 : (List T_impl_TokenCount)), rl3 = s5 ∧ AvOK A w ∧ Fr w0 w ∧ (∀ b o, A0 b o → A b o) ∧ IniOK [ob u2 (.vec w0.heap.size 76 E_impl_TokenCount s5)] A w ∧ R 3 = u2) ?_ ?_
  · refine HT.block ?_
    refine HT.loop (fun k R w => ∃ A : Av, ∃ (y6 : Int) (y7 : List T_impl_TokenCount), M_laws_toTokenCountS_L0 fu p0 k y6 y7 = some rl3 ∧ AvOK A w ∧ Fr w0 w ∧ (∀ b o, A0 b o → A b o) ∧ IniOK [ob u2 (.vec w0.heap.size 76 E_impl_TokenCount y7)] A w ∧ R 0 = v0 ∧ R 3 = u2 ∧ R 4 = .int .i64 y6 ∧ Rep (eSl E_impl_TokenCount) A w v0 p0) fu ⟨_, _, _, q4, hA, hF, hAA, hO, h0, h3, h4, f_v0⟩ ?_
    have hr0 := hr; clear hr q4
    rintro k R w ⟨A, y6, y7, hr, hA, hF, hAA, hO, h0, h3, h4, f_v0⟩
    rcases k with _ | k
    · cases (show none = some _ from hr)
    rw [M_laws_toTokenCountS_L0] at hr
    refine HT.seq ?_
    refine HT.seq ?_
    refine HT.text (l := ⟨_, true, .raw (.int .i64 y6)⟩ :: ⟨_, true, .raw v0⟩ :: ⟨_, true, .raw (.int .i64 (p0.length : Int))⟩ :: ⟨_, true, .raw (.bool (decide (y6 < (p0.length : Int))))⟩ :: []) (tl := []) (by kernel_rfl) (by kernel_rfl) (by kernel_rfl) ?_ ?_
    · exact
        Obls.cons (Obl.plain rfl rfl fun R' w' hw hs hd => by have a0 : R' 4 = .int .i64 y6 := (hs 4 rfl).trans h4; exact of_move a0) <|
        Obls.cons (Obl.plain rfl rfl fun R' w' hw hs hd => by have a0 : R' 0 = v0 := (hs 0 rfl).trans h0; exact of_move a0) <|
        Obls.cons (Obl.plain rfl rfl fun R' w' hw hs hd => by have a0 : R' 9 = v0 := hd 0 _ _ _ rfl rfl rfl rfl rfl; have ra0 := (f_v0.fr hw).eq a0; exact of_len_sl (aT := #[]) ra0 Try.underlying22) <|
        Obls.cons (Obl.plain rfl rfl fun R' w' hw hs hd => by have a0 : R' 8 = .int .i64 y6 := hd 0 _ _ _ rfl rfl rfl rfl rfl; have a1 : R' 10 = .int .i64 (p0.length : Int) := hd 1 _ _ _ rfl rfl rfl rfl rfl; exact of_lss a0 a1) <|
        Obls.nil
    intro R w hw hs hF'
    replace h0 : R 0 = v0 := (hs 0 rfl).trans h0
    replace h3 : R 3 = u2 := (hs 3 rfl).trans h3
    replace h4 : R 4 = .int .i64 y6 := (hs 4 rfl).trans h4
    have h11 : R 11 = .bool (decide (y6 < (p0.length : Int))) := hF' 3 _ _ rfl rfl rfl
    replace f_v0 := f_v0.fr hw
    replace hO := hO.fr hw
    replace hA := hA.fr hw.size
    replace hF := hF.trans hw
    clear hs hF' hw
    refine seqR_nil ?_
    refine HT.cond (decide (y6 < (p0.length : Int))) h11 (fun c8 => ?_) (fun c8 => ?_)
    · have hr := cnd_t c8 hr
      refine HT.skip ?_
      refine HT.seq ?_
      refine HT.block ?_
      obtain ⟨e9, hr⟩ := ck_some hr
      obtain ⟨x10, q11, hr⟩ := cl_some hr
      obtain ⟨e12, hr⟩ := ck_some hr
      refine HT.textR [ob u2 (.vec w0.heap.size 76 E_impl_TokenCount y7)] (⟨_, true, [], none, true, fun A => .raw u2⟩ :: ⟨_, true, [], none, true, fun A => .raw (.int .i64 y6)⟩ :: ⟨_, true, [], none, true, fun A => .raw v0⟩ :: ⟨_, true, [], none, true, fun A => .raw (.int .i64 y6)⟩ :: ⟨_, true, [], none, true, fun A => .qtr E_impl_TokenCount A (gtD p0 y6)⟩ :: ⟨_, true, [], none, true, fun A => .rep E_impl_TokenCount A (gtD p0 y6)⟩ :: ⟨_, true, [], none, true, fun A => .rep E_impl_TokenCount A x10⟩ :: ⟨_, true, [], none, true, fun A => .raw (vptr u2 (y6.toNat * 2))⟩ :: ⟨_, true, [0], some (.vec w0.heap.size 76 E_impl_TokenCount (y7.set y6.toNat x10)), false, fun A => .any⟩ :: []) (by kernel_rfl) (by kernel_rfl) (Wf.mk' (by kernel_rfl) (UAll.cons ust_raw (UAll.cons ust_raw (UAll.cons ust_raw (UAll.cons ust_raw (UAll.cons ust_qtr (UAll.cons ust_rep (UAll.cons ust_rep (UAll.cons ust_raw (UAll.cons ust_any (UAll.nil)))))))))) (by kernel_rfl) (by kernel_rfl)) hO hA ?_ ?_
      · exact
          OblsR.cons (OblR.plain rfl rfl rfl rfl fun A' R' w' ho hd => by have a0 : R' 3 = u2 := (ho.old 3 rfl).trans h3; exact of_move a0) <|
          OblsR.cons (OblR.plain rfl rfl rfl rfl fun A' R' w' ho hd => by have a0 : R' 4 = .int .i64 y6 := (ho.old 4 rfl).trans h4; exact of_move a0) <|
          OblsR.cons (OblR.plain rfl rfl rfl rfl fun A' R' w' ho hd => by have a0 : R' 0 = v0 := (ho.old 0 rfl).trans h0; exact of_move a0) <|
          OblsR.cons (OblR.plain rfl rfl rfl rfl fun A' R' w' ho hd => by have a0 : R' 4 = .int .i64 y6 := (ho.old 4 rfl).trans h4; exact of_move a0) <|
          OblsR.cons (OblR.plain rfl rfl rfl rfl fun A' R' w' ho hd => by have a0 : R' 16 = v0 := hd 0 _ _ _ rfl rfl rfl rfl rfl; have a1 : R' 17 = .int .i64 y6 := hd 1 _ _ _ rfl rfl rfl rfl rfl; have ra0 := (f_v0.stp ho.stp).eq a0; exact of_indexAddr ra0 a1 Try.underlying22 Try.sizeOf74 e9) <|
          OblsR.cons (OblR.plain rfl rfl rfl rfl fun A' R' w' ho hd => by have a0 : QRep E_impl_TokenCount A' w' (R' 18) (gtD p0 y6) := hd 0 _ _ _ rfl rfl rfl rfl rfl; exact (of_load a0.ptr Try.isAgg74 Try.sizeOf74)) <|
          OblsR.cons (OblR.plain rfl rfl rfl rfl fun A' R' w' ho hd => by have a0 : Rep E_impl_TokenCount A' w' (R' 19) (gtD p0 y6) := hd 0 _ _ _ rfl rfl rfl rfl rfl; exact of_call Try.call60 (M_laws_toTokenCount_ok (q11 rfl) ho.av a0)) <|
          OblsR.cons (OblR.plain rfl rfl rfl rfl fun A' R' w' ho hd => by have a0 : R' 14 = u2 := hd 0 _ _ _ rfl rfl rfl rfl rfl; have a1 : R' 15 = .int .i64 y6 := hd 1 _ _ _ rfl rfl rfl rfl rfl; exact of_indexAddr_vec (hO.ok 0 _ rfl).1 a0 a1 Try.underlying27 Try.sizeOf76 e12 rfl) <|
          OblsR.cons (OblR.took 0 _ _ rfl rfl rfl rfl rfl fun A' R' w' ho hd u hok hav hin hop hds => by have a0 : R' 21 = (vptr u2 (y6.toNat * 2)) := hd 0 _ _ _ rfl rfl rfl rfl rfl; have a1 : Rep E_impl_TokenCount A' w' (R' 20) x10 := hd 1 _ _ _ rfl rfl rfl rfl rfl; obtain rfl := hin _ rfl; exact took_vstore a1 hok hav a0 e12 rfl (FldS.id _) Try.sizeOf76 rfl) <|
          OblsR.nil
      intro done ρ σ A R w hdn hI
      replace h0 : R 0 = v0 := (hI.reg rfl).trans h0
      replace h3 : R 3 = u2 := (hI.reg rfl).trans h3
      replace h4 : R 4 = .int .i64 y6 := (hI.reg rfl).trans h4
      have z13 := hI.inivR 0 rfl
      have z14 := (hI.opnR hdn 9 8 rfl rfl rfl rfl rfl).trans z13
      replace f_v0 := f_v0.stp hI.stp
      replace hAA := hI.low' hAA hA0 (hO.ge (⟨rfl, trivial⟩))
      replace hF : Fr w0 w := hF.tr hI.ch (hO.ge (⟨rfl, trivial⟩))
      replace hO : IniOK [ob u2 (.vec w0.heap.size 76 E_impl_TokenCount (y7.set y6.toNat x10))] A w := hI.left hdn [(9, ob u2 (.vec w0.heap.size 76 E_impl_TokenCount (y7.set y6.toNat x10)))] ⟨rfl, rfl, z14, rfl, rfl, trivial⟩
      replace hA := hI.avok
      clear hI
      obtain ⟨e15, hr⟩ := ck_some hr
      refine HT.text (l := ⟨_, true, .raw (.int .i64 y6)⟩ :: ⟨_, true, .raw (.int .i64 (y6 + (1 : Int)))⟩ :: ⟨_, true, .raw (.int .i64 (y6 + (1 : Int)))⟩ :: []) (tl := []) (by kernel_rfl) (by kernel_rfl) (by kernel_rfl) ?_ ?_
      · exact
          Obls.cons (Obl.plain rfl rfl fun R' w' hw hs hd => by have a0 : R' 4 = .int .i64 y6 := (hs 4 rfl).trans h4; exact of_move a0) <|
          Obls.cons (Obl.plain rfl rfl fun R' w' hw hs hd => by have a0 : R' 12 = .int .i64 y6 := hd 0 _ _ _ rfl rfl rfl rfl rfl; exact of_add a0 rfl e15) <|
          Obls.cons (Obl.plain rfl rfl fun R' w' hw hs hd => by have a0 : R' 13 = .int .i64 (y6 + (1 : Int)) := hd 0 _ _ _ rfl rfl rfl rfl rfl; exact of_assign a0) <|
          Obls.nil
      intro R w hw hs hF'
      replace h0 : R 0 = v0 := (hs 0 rfl).trans h0
      replace h3 : R 3 = u2 := (hs 3 rfl).trans h3
      have h4 : R 4 = .int .i64 (y6 + (1 : Int)) := hF' 2 _ _ rfl rfl rfl
      replace f_v0 := f_v0.fr hw
      replace hO := hO.fr hw
      replace hA := hA.fr hw.size
      replace hF := hF.trans hw
      clear hs hF' hw
      refine seqR_nil ?_
      exact Exists.intro k (And.intro (Nat.lt_succ_self k) ⟨_, _, _, hr, hA, hF, hAA, hO, h0, h3, h4, f_v0⟩)
    · have hr := cnd_f c8 hr
      refine HT.exit ?_
      obtain rfl := Option.some.inj hr
      exact Exists.intro _ ⟨_, rfl, hA, hF, hAA, hO, h3⟩
  rintro R w ⟨A, s5, es, hA, hF, hAA, hO, h3⟩
  obtain rfl := es.symm
  refine HT.seq ?_
  refine HT.text (l := ⟨_, true, .raw u2⟩ :: ⟨_, true, .raw u2⟩ :: []) (tl := []) (by kernel_rfl) (by kernel_rfl) (by kernel_rfl) ?_ ?_
  · exact
      Obls.cons (Obl.plain rfl rfl fun R' w' hw hs hd => by have a0 : R' 3 = u2 := (hs 3 rfl).trans h3; exact of_move a0) <|
      Obls.cons (Obl.plain rfl rfl fun R' w' hw hs hd => by have a0 : R' 22 = u2 := hd 0 _ _ _ rfl rfl rfl rfl rfl; exact of_assign a0) <|
      Obls.nil
  intro R w hw hs hF'
  have h2 : R 2 = u2 := hF' 1 _ _ rfl rfl rfl
  replace hO := hO.fr hw
  replace hA := hA.fr hw.size
  replace hF := hF.trans hw
  clear hs hF' hw
  refine seqR_nil ?_
  refine HT.ret ?_
  obtain rfl := Option.some.inj hr
  exact ⟨.inr rfl, [R 2], ⟨rfl, trivial⟩, (own_post (hO.ok 0 _ rfl) hAA h2), hF⟩
theorem M_laws_toTokenCountS_okR {fu : Nat} {A0 : Av} {p0 : List T_impl_TokenCount} {r : List T_impl_TokenCount} (hr : M_laws_toTokenCountS fu p0 = some r) {w : World} {v0 : Value} (hA : AvOK A0 w) (h0 : Rep (eSl E_impl_TokenCount) A0 w v0 p0) :
    Calls Try.prog 16 #[v0] w fun e w' => ∃ v, e = .returned v ∧ (Rep (eSl E_impl_TokenCount) A0 w' v r ∧ Fr w w') := by
  refine Calls.mono (M_laws_toTokenCountS_ok hr hA h0) ?_
  rintro e w' ⟨v, he, hv, hf⟩
  exact ⟨v, he, vec_rep hv (fun b o h => .inl h) hA, hf⟩
def M_laws_toStringS_L0 (fu : Nat) (p0 : List (List UInt8)) : Nat → Int → (List (List UInt8)) → Option (List (List UInt8))
  | 0, _, _ => none
  | k + 1, y6, y7 =>
    bif (decide (y6 < (p0.length : Int))) then (
      ck (inR y6 p0.length) <|
      ck (inR y6 y7.length) <|
      ck (i64B (y6 + (1 : Int))) <|
      M_laws_toStringS_L0 fu p0 k (y6 + (1 : Int)) (y7.set y6.toNat (gtD p0 y6))
    ) else (
      some y7
    )
def M_laws_toStringS (fu : Nat) (p0 : List (List UInt8)) : Option (List (List UInt8)) :=
  ck (mkOK (p0.length : Int)) <|
  cl true (M_laws_toStringS_L0 fu p0 fu (0 : Int) (List.replicate (p0.length : Int).toNat ([] : List UInt8))) fun s5 =>
  some s5
set_option maxRecDepth 100000 in
set_option maxHeartbeats 4000000 in
theorem M_laws_toStringS_ok {fu : Nat} {A0 : Av} {p0 : List (List UInt8)} {r : List (List UInt8)} (hr : M_laws_toStringS fu p0 = some r) {w : World} {v0 : Value} (hA : AvOK A0 w) (h0 : Rep (eSl eStr) A0 w v0 p0) :
    Calls Try.prog 17 #[v0] w fun e w' => ∃ v, e = .returned v ∧ ((Res.vec w.heap.size 9 eStr r).ok (addA A0 v) v w' ∧ Fr w w') := by
  unfold M_laws_toStringS at hr
  obtain ⟨w0, hw0⟩ : ∃ w0, w0 = w := ⟨_, rfl⟩
  have hF : Fr w0 w := hw0 ▸ Fr.refl _
  have hA0 : ∀ b o, A0 b o → b < w0.heap.size := fun b o h => hw0 ▸ hA b o h
  have hA00 : AvOK A0 w0 := hA0
  rw [show w.heap.size = w0.heap.size from hw0 ▸ rfl]
  rw [show Fr w = Fr w0 from hw0 ▸ rfl]
  clear hw0
  obtain ⟨A, hAe⟩ : ∃ A, A = A0 := ⟨_, rfl⟩
  have hAA : ∀ b o, A0 b o → A b o := fun b o h => hAe ▸ h
  replace hA : AvOK A w := hAe ▸ hA
  have hO : IniOK [] A w := IniOK.nil
  refine calls_of_HT2 [.tmp 2] Try.func17 Try.ntmps17 (by decide) rfl rfl (Nat.le_of_ble_eq_true rfl) ?_
  intro R hR
  have f_v0 : Rep (eSl eStr) A w v0 p0 := hAe ▸ h0
  replace h0 : R 0 = v0 := hR 0 _ rfl
  clear hR hAe
  refine HT.seq ?_
  refine HT.text (l := ⟨_, true, .any⟩ :: []) (tl := []) (by kernel_rfl) (by kernel_rfl) (by kernel_rfl) ?_ ?_
  · exact
      Obls.cons (Obl.plain rfl rfl fun R' w' hw hs hd => by exact of_assign trivial) <|
      Obls.nil
  intro R w hw hs hF'
  replace h0 : R 0 = v0 := (hs 0 rfl).trans h0
  replace f_v0 := f_v0.fr hw
  replace hO := hO.fr hw
  replace hA := hA.fr hw.size
  replace hF := hF.trans hw
  clear hs hF' hw
  refine seqR_nil ?_
  refine HT.seq ?_
  obtain ⟨e1, hr⟩ := ck_some hr
  refine HT.textR [] (⟨_, true, [], none, true, fun A => .raw v0⟩ :: ⟨_, true, [], none, true, fun A => .raw (.int .i64 (p0.length : Int))⟩ :: ⟨_, true, [], some (.vec w0.heap.size 9 eStr (List.replicate (p0.length : Int).toNat ([] : List UInt8))), true, fun A => .any⟩ :: ⟨_, true, [2], some (.vec w0.heap.size 9 eStr (List.replicate (p0.length : Int).toNat ([] : List UInt8))), true, fun A => .any⟩ :: []) (by kernel_rfl) (by kernel_rfl) (Wf.mk' (by kernel_rfl) (UAll.cons ust_raw (UAll.cons ust_raw (UAll.cons ust_any (UAll.cons ust_any (UAll.nil))))) (by kernel_rfl) (by kernel_rfl)) hO hA ?_ ?_
  · exact
      OblsR.cons (OblR.plain rfl rfl rfl rfl fun A' R' w' ho hd => by have a0 : R' 0 = v0 := (ho.old 0 rfl).trans h0; exact of_move a0) <|
      OblsR.cons (OblR.plain rfl rfl rfl rfl fun A' R' w' ho hd => by have a0 : R' 5 = v0 := hd 0 _ _ _ rfl rfl rfl rfl rfl; have ra0 := (f_v0.stp ho.stp).eq a0; exact of_len_sl (aT := #[]) ra0 Try.underlying23) <|
      OblsR.cons (OblR.made _ rfl rfl rfl rfl fun A' R' w' ho hd => by have a0 : R' 6 = .int .i64 (p0.length : Int) := hd 0 _ _ _ rfl rfl rfl rfl rfl; have a1 : R' 6 = .int .i64 (p0.length : Int) := hd 0 _ _ _ rfl rfl rfl rfl rfl; exact made_make a0 a1 e1 Try.underlying23 el_9 Try.zeroValue9 (fun A w => (rep1_str rfl (by decide))) (Nat.le_trans hF.size ho.ch.size)) <|
      OblsR.cons (OblR.took 2 _ _ rfl rfl rfl rfl rfl fun A' R' w' ho hd u hok hav hin hop hds => by exact took_assign (hop _ _ rfl rfl rfl rfl).symm hok hav) <|
      OblsR.nil
  intro done ρ σ A R w hdn hI
  replace h0 : R 0 = v0 := (hI.reg rfl).trans h0
  obtain ⟨u2, e_u2⟩ : ∃ u, ρ 3 = u := ⟨_, rfl⟩
  have h3 : R 3 = u2 := (hI.opvR hdn 3 3 rfl rfl rfl rfl rfl).symm.trans e_u2
  replace f_v0 := f_v0.stp hI.stp
  replace hAA := hI.low' hAA hA0 (hO.ge (trivial))
  replace hF : Fr w0 w := hF.tr hI.ch (hO.ge (trivial))
  replace hO : IniOK [ob u2 (.vec w0.heap.size 9 eStr (List.replicate (p0.length : Int).toNat ([] : List UInt8)))] A w := hI.left hdn [(3, ob u2 (.vec w0.heap.size 9 eStr (List.replicate (p0.length : Int).toNat ([] : List UInt8))))] ⟨rfl, rfl, e_u2, rfl, rfl, trivial⟩
  replace hA := hI.avok
  clear hI
  refine HT.seq ?_
  refine HT.seq ?_
  refine HT.text (l := ⟨_, true, .raw (.int .i64 (0 : Int))⟩ :: []) (tl := []) (by kernel_rfl) (by kernel_rfl) (by kernel_rfl) ?_ ?_
  · exact
      Obls.cons (Obl.plain rfl rfl fun R' w' hw hs hd => by exact of_assign rfl) <|
      Obls.nil
  intro R w hw hs hF'
  replace h0 : R 0 = v0 := (hs 0 rfl).trans h0
  replace h3 : R 3 = u2 := (hs 3 rfl).trans h3
  have h4 : R 4 = .int .i64 (0 : Int) := hF' 0 _ _ rfl rfl rfl
  replace f_v0 := f_v0.fr hw
  replace hO := hO.fr hw
  replace hA := hA.fr hw.size
  replace hF := hF.trans hw
  clear hs hF' hw
  refine seqR_nil ?_
  obtain ⟨rl3, q4, hr⟩ := cl_some hr
  replace q4 := q4 rfl
  refine HT.cut0 (fun R w => ∃ A : Av, ∃ (s5 : (List (List UInt8))), rl3 = s5 ∧ AvOK A w ∧ Fr w0 w ∧ (∀ b o, A0 b o → A b o) ∧ IniOK [ob u2 (.vec w0.heap.size 9 eStr s5)] A w ∧ R 3 = u2) ?_ ?_
  · refine HT.block ?_
    refine HT.loop (fun k R w => ∃ A : Av, ∃ (y6 : Int) (y7 : List (List UInt8)), M_laws_toStringS_L0 fu p0 k y6 y7 = some rl3 ∧ AvOK A w ∧ Fr w0 w ∧ (∀ b o, A0 b o → A b o) ∧ IniOK [ob u2 (.vec w0.heap.size 9 eStr y7)] A w ∧ R 0 = v0 ∧ R 3 = u2 ∧ R 4 = .int .i64 y6 ∧ Rep (eSl eStr) A w v0 p0) fu ⟨_, _, _, q4, hA, hF, hAA, hO, h0, h3, h4, f_v0⟩ ?_
    have hr0 := hr; clear hr q4
    rintro k R w ⟨A, y6, y7, hr, hA, hF, hAA, hO, h0, h3, h4, f_v0⟩
    rcases k with _ | k
    · cases (show none = some _ from hr)
    rw [M_laws_toStringS_L0] at hr
    refine HT.seq ?_
    refine HT.seq ?_
    refine HT.text (l := ⟨_, true, .raw (.int .i64 y6)⟩ :: ⟨_, true, .raw v0⟩ :: ⟨_, true, .raw (.int .i64 (p0.length : Int))⟩ :: ⟨_, true, .raw (.bool (decide (y6 < (p0.length : Int))))⟩ :: []) (tl := []) (by kernel_rfl) (by kernel_rfl) (by kernel_rfl) ?_ ?_
    · exact
        Obls.cons (Obl.plain rfl rfl fun R' w' hw hs hd => by have a0 : R' 4 = .int .i64 y6 := (hs 4 rfl).trans h4; exact of_move a0) <|
        Obls.cons (Obl.plain rfl rfl fun R' w' hw hs hd => by have a0 : R' 0 = v0 := (hs 0 rfl).trans h0; exact of_move a0) <|
        Obls.cons (Obl.plain rfl rfl fun R' w' hw hs hd => by have a0 : R' 9 = v0 := hd 0 _ _ _ rfl rfl rfl rfl rfl; have ra0 := (f_v0.fr hw).eq a0; exact of_len_sl (aT := #[]) ra0 Try.underlying23) <|
        Obls.cons (Obl.plain rfl rfl fun R' w' hw hs hd => by have a0 : R' 8 = .int .i64 y6 := hd 0 _ _ _ rfl rfl rfl rfl rfl; have a1 : R' 10 = .int .i64 (p0.length : Int) := hd 1 _ _ _ rfl rfl rfl rfl rfl; exact of_lss a0 a1) <|
        Obls.nil
    intro R w hw hs hF'
    replace h0 : R 0 = v0 := (hs 0 rfl).trans h0
    replace h3 : R 3 = u2 := (hs 3 rfl).trans h3
    replace h4 : R 4 = .int .i64 y6 := (hs 4 rfl).trans h4
    have h11 : R 11 = .bool (decide (y6 < (p0.length : Int))) := hF' 3 _ _ rfl rfl rfl
    replace f_v0 := f_v0.fr hw
    replace hO := hO.fr hw
    replace hA := hA.fr hw.size
    replace hF := hF.trans hw
    clear hs hF' hw
    refine seqR_nil ?_
    refine HT.cond (decide (y6 < (p0.length : Int))) h11 (fun c8 => ?_) (fun c8 => ?_)
    · have hr := cnd_t c8 hr
      refine HT.skip ?_
      refine HT.seq ?_
      refine HT.block ?_
      obtain ⟨e9, hr⟩ := ck_some hr
      obtain ⟨e10, hr⟩ := ck_some hr
      refine HT.textR [ob u2 (.vec w0.heap.size 9 eStr y7)] (⟨_, true, [], none, true, fun A => .raw u2⟩ :: ⟨_, true, [], none, true, fun A => .raw (.int .i64 y6)⟩ :: ⟨_, true, [], none, true, fun A => .raw v0⟩ :: ⟨_, true, [], none, true, fun A => .raw (.int .i64 y6)⟩ :: ⟨_, true, [], none, true, fun A => .qtr eStr A (gtD p0 y6)⟩ :: ⟨_, true, [], none, true, fun A => .rep eStr A (gtD p0 y6)⟩ :: ⟨_, true, [], none, true, fun A => .raw (vptr u2 (y6.toNat * 1))⟩ :: ⟨_, true, [0], some (.vec w0.heap.size 9 eStr (y7.set y6.toNat (gtD p0 y6))), false, fun A => .any⟩ :: []) (by kernel_rfl) (by kernel_rfl) (Wf.mk' (by kernel_rfl) (UAll.cons ust_raw (UAll.cons ust_raw (UAll.cons ust_raw (UAll.cons ust_raw (UAll.cons ust_qtr (UAll.cons ust_rep (UAll.cons ust_raw (UAll.cons ust_any (UAll.nil))))))))) (by kernel_rfl) (by kernel_rfl)) hO hA ?_ ?_
      · exact
          OblsR.cons (OblR.plain rfl rfl rfl rfl fun A' R' w' ho hd => by have a0 : R' 3 = u2 := (ho.old 3 rfl).trans h3; exact of_move a0) <|
          OblsR.cons (OblR.plain rfl rfl rfl rfl fun A' R' w' ho hd => by have a0 : R' 4 = .int .i64 y6 := (ho.old 4 rfl).trans h4; exact of_move a0) <|
          OblsR.cons (OblR.plain rfl rfl rfl rfl fun A' R' w' ho hd => by have a0 : R' 0 = v0 := (ho.old 0 rfl).trans h0; exact of_move a0) <|
          OblsR.cons (OblR.plain rfl rfl rfl rfl fun A' R' w' ho hd => by have a0 : R' 4 = .int .i64 y6 := (ho.old 4 rfl).trans h4; exact of_move a0) <|
          OblsR.cons (OblR.plain rfl rfl rfl rfl fun A' R' w' ho hd => by have a0 : R' 16 = v0 := hd 0 _ _ _ rfl rfl rfl rfl rfl; have a1 : R' 17 = .int .i64 y6 := hd 1 _ _ _ rfl rfl rfl rfl rfl; have ra0 := (f_v0.stp ho.stp).eq a0; exact of_indexAddr ra0 a1 Try.underlying23 Try.sizeOf9 e9) <|
          OblsR.cons (OblR.plain rfl rfl rfl rfl fun A' R' w' ho hd => by have a0 : QRep eStr A' w' (R' 18) (gtD p0 y6) := hd 0 _ _ _ rfl rfl rfl rfl rfl; exact (of_load a0.ptr Try.isAgg9 Try.sizeOf9)) <|
          OblsR.cons (OblR.plain rfl rfl rfl rfl fun A' R' w' ho hd => by have a0 : R' 14 = u2 := hd 0 _ _ _ rfl rfl rfl rfl rfl; have a1 : R' 15 = .int .i64 y6 := hd 1 _ _ _ rfl rfl rfl rfl rfl; exact of_indexAddr_vec (hO.ok 0 _ rfl).1 a0 a1 Try.underlying23 Try.sizeOf9 e10 rfl) <|
          OblsR.cons (OblR.took 0 _ _ rfl rfl rfl rfl rfl fun A' R' w' ho hd u hok hav hin hop hds => by have a0 : R' 20 = (vptr u2 (y6.toNat * 1)) := hd 0 _ _ _ rfl rfl rfl rfl rfl; have a1 : Rep eStr A' w' (R' 19) (gtD p0 y6) := hd 1 _ _ _ rfl rfl rfl rfl rfl; obtain rfl := hin _ rfl; exact took_vstore a1 hok hav a0 e10 rfl (FldS.id _) Try.sizeOf9 rfl) <|
          OblsR.nil
      intro done ρ σ A R w hdn hI
      replace h0 : R 0 = v0 := (hI.reg rfl).trans h0
      replace h3 : R 3 = u2 := (hI.reg rfl).trans h3
      replace h4 : R 4 = .int .i64 y6 := (hI.reg rfl).trans h4
      have z11 := hI.inivR 0 rfl
      have z12 := (hI.opnR hdn 8 7 rfl rfl rfl rfl rfl).trans z11
      replace f_v0 := f_v0.stp hI.stp
      replace hAA := hI.low' hAA hA0 (hO.ge (⟨rfl, trivial⟩))
      replace hF : Fr w0 w := hF.tr hI.ch (hO.ge (⟨rfl, trivial⟩))
      replace hO : IniOK [ob u2 (.vec w0.heap.size 9 eStr (y7.set y6.toNat (gtD p0 y6)))] A w := hI.left hdn [(8, ob u2 (.vec w0.heap.size 9 eStr (y7.set y6.toNat (gtD p0 y6))))] ⟨rfl, rfl, z12, rfl, rfl, trivial⟩
      replace hA := hI.avok
      clear hI
      obtain ⟨e13, hr⟩ := ck_some hr
      refine HT.text (l := ⟨_, true, .raw (.int .i64 y6)⟩ :: ⟨_, true, .raw (.int .i64 (y6 + (1 : Int)))⟩ :: ⟨_, true, .raw (.int .i64 (y6 + (1 : Int)))⟩ :: []) (tl := []) (by kernel_rfl) (by kernel_rfl) (by kernel_rfl) ?_ ?_
      · exact
          Obls.cons (Obl.plain rfl rfl fun R' w' hw hs hd => by have a0 : R' 4 = .int .i64 y6 := (hs 4 rfl).trans h4; exact of_move a0) <|
          Obls.cons (Obl.plain rfl rfl fun R' w' hw hs hd => by have a0 : R' 12 = .int .i64 y6 := hd 0 _ _ _ rfl rfl rfl rfl rfl; exact of_add a0 rfl e13) <|
          Obls.cons (Obl.plain rfl rfl fun R' w' hw hs hd => by have a0 : R' 13 = .int .i64 (y6 + (1 : Int)) := hd 0 _ _ _ rfl rfl rfl rfl rfl; exact of_assign a0) <|
          Obls.nil
      intro R w hw hs hF'
      replace h0 : R 0 = v0 := (hs 0 rfl).trans h0
      replace h3 : R 3 = u2 := (hs 3 rfl).trans h3
      have h4 : R 4 = .int .i64 (y6 + (1 : Int)) := hF' 2 _ _ rfl rfl rfl
      replace f_v0 := f_v0.fr hw
      replace hO := hO.fr hw
      replace hA := hA.fr hw.size
      replace hF := hF.trans hw
      clear hs hF' hw
      refine seqR_nil ?_
      exact Exists.intro k (And.intro (Nat.lt_succ_self k) ⟨_, _, _, hr, hA, hF, hAA, hO, h0, h3, h4, f_v0⟩)
    · have hr := cnd_f c8 hr
      refine HT.exit ?_
      obtain rfl := Option.some.inj hr
      exact Exists.intro _ ⟨_, rfl, hA, hF, hAA, hO, h3⟩
  rintro R w ⟨A, s5, es, hA, hF, hAA, hO, h3⟩
  obtain rfl := es.symm
  refine HT.seq ?_
  refine HT.text (l := ⟨_, true, .raw u2⟩ :: ⟨_, true, .raw u2⟩ :: []) (tl := []) (by kernel_rfl) (by kernel_rfl) (by kernel_rfl) ?_ ?_
  · exact
      Obls.cons (Obl.plain rfl rfl fun R' w' hw hs hd => by have a0 : R' 3 = u2 := (hs 3 rfl).trans h3; exact of_move a0) <|
      Obls.cons (Obl.plain rfl rfl fun R' w' hw hs hd => by have a0 : R' 21 = u2 := hd 0 _ _ _ rfl rfl rfl rfl rfl; exact of_assign a0) <|
      Obls.nil
  intro R w hw hs hF'
  have h2 : R 2 = u2 := hF' 1 _ _ rfl rfl rfl
  replace hO := hO.fr hw
  replace hA := hA.fr hw.size
  replace hF := hF.trans hw
  clear hs hF' hw
  refine seqR_nil ?_
  refine HT.ret ?_
  obtain rfl := Option.some.inj hr
  exact ⟨.inr rfl, [R 2], ⟨rfl, trivial⟩, (own_post (hO.ok 0 _ rfl) hAA h2), hF⟩
theorem M_laws_toStringS_okR {fu : Nat} {A0 : Av} {p0 : List (List UInt8)} {r : List (List UInt8)} (hr : M_laws_toStringS fu p0 = some r) {w : World} {v0 : Value} (hA : AvOK A0 w) (h0 : Rep (eSl eStr) A0 w v0 p0) :
    Calls Try.prog 17 #[v0] w fun e w' => ∃ v, e = .returned v ∧ (Rep (eSl eStr) A0 w' v r ∧ Fr w w') := by
  refine Calls.mono (M_laws_toStringS_ok hr hA h0) ?_
  rintro e w' ⟨v, he, hv, hf⟩
  exact ⟨v, he, vec_rep hv (fun b o h => .inl h) hA, hf⟩
def M_laws_toIndexedSet (fu : Nat) (p0 : T_impl_IndexedSet) : Option T_impl_IndexedSet :=
  cl true (M_laws_toStringS fu p0.2) fun x13 =>
  some (p0.1, x13)
set_option maxRecDepth 100000 in
set_option maxHeartbeats 4000000 in
theorem M_laws_toIndexedSet_ok {fu : Nat} {A0 : Av} {p0 : T_impl_IndexedSet} {r : T_impl_IndexedSet} (hr : M_laws_toIndexedSet fu p0 = some r) {w : World} {v0 : Value} (hA : AvOK A0 w) (h0 : Rep E_impl_IndexedSet A0 w v0 p0) :
    Calls Try.prog 113 #[v0] w fun e w' => ∃ v, e = .returned v ∧ (MadeS A0 (trR (geB w.heap.size) (oPr (oRd (eInt .i64)) (oSl 9 (oRd eStr))) r []) (fun _ => .any) w v w') := by
  unfold M_laws_toIndexedSet at hr
  obtain ⟨w0, hw0⟩ : ∃ w0, w0 = w := ⟨_, rfl⟩
  have hF : Fr w0 w := hw0 ▸ Fr.refl _
  have hA0 : ∀ b o, A0 b o → b < w0.heap.size := fun b o h => hw0 ▸ hA b o h
  have hA00 : AvOK A0 w0 := hA0
  rw [show MadeS A0 (trR (geB w.heap.size) (oPr (oRd (eInt .i64)) (oSl 9 (oRd eStr))) r []) (fun _ => .any) w = MadeS A0 (trR (geB w0.heap.size) (oPr (oRd (eInt .i64)) (oSl 9 (oRd eStr))) r []) (fun _ => .any) w0 from hw0 ▸ rfl]
  clear hw0
  obtain ⟨A, hAe⟩ : ∃ A, A = A0 := ⟨_, rfl⟩
  have hAA : ∀ b o, A0 b o → A b o := fun b o h => hAe ▸ h
  replace hA : AvOK A w := hAe ▸ hA
  have hO : IniOK [] A w := IniOK.nil
  refine calls_of_HT2 [.cell 2 91] Try.func113 Try.ntmps113 (by decide) rfl rfl (Nat.le_of_ble_eq_true rfl) ?_
  intro R hR
  have f_v0 : Rep E_impl_IndexedSet A w v0 p0 := hAe ▸ h0
  replace h0 : R 0 = v0 := hR 0 _ rfl
  clear hR hAe
  refine HT.seq ?_
  refine HT.textR [] (⟨_, true, [], some (.box w0.heap.size 120 E_impl_IndexedSet p0), true, fun A => .any⟩ :: ⟨_, true, [], some (trR (geB w0.heap.size) (oPt 91 (oPr (oRd (eInt .i64)) (oSl 9 (oRd eStr)))) ((0 : Int), ([] : List (List UInt8))) []), true, fun A => .any⟩ :: []) (by kernel_rfl) (by kernel_rfl) (Wf.mk' (by kernel_rfl) (UAll.cons ust_any (UAll.cons ust_any (UAll.nil))) (by kernel_rfl) (by kernel_rfl)) hO hA ?_ ?_
  · exact
      OblsR.cons (OblR.made _ rfl rfl rfl rfl fun A' R' w' ho hd => by have a0 : R' 0 = v0 := (ho.old 0 rfl).trans h0; have ra0 := (f_v0.stp ho.stp).eq a0; exact made_box ra0 (Nat.le_trans hF.size ho.ch.size)) <|
      OblsR.cons (OblR.madeS _ rfl rfl rfl rfl fun A' R' w' ho hd => by exact made_allocT Try.zeroValue91 (fun A w => own_pr (own_rd rep1_int) own_nil) (fun k hk => Nat.le_trans (Nat.le_trans hF.size ho.ch.size) hk)) <|
      OblsR.nil
  intro done ρ σ A R w hdn hI
  obtain ⟨b1_0, e_b1_0⟩ := hI.boxv hdn 0 rfl rfl
  have h1 : R 1 = (.pointer (some ⟨b1_0, 0, none⟩)) := (hI.opvR hdn 0 0 rfl rfl rfl rfl rfl).symm.trans e_b1_0
  obtain ⟨u2, e_u2⟩ : ∃ u, ρ 1 = u := ⟨_, rfl⟩
  have h2 : R 2 = u2 := (hI.opvR hdn 1 1 rfl rfl rfl rfl rfl).symm.trans e_u2
  obtain ⟨S3, eS_u2⟩ : ∃ S, σ 1 = S := ⟨_, rfl⟩
  replace hAA := hI.low' hAA hA0 (hO.ge (trivial))
  replace hF : Fr w0 w := hF.tr hI.ch (hO.ge (trivial))
  replace hO : IniOK [ob (.pointer (some ⟨b1_0, 0, none⟩)) (.box w0.heap.size 120 E_impl_IndexedSet p0), ⟨u2, S3, trR (geB w0.heap.size) (oPt 91 (oPr (oRd (eInt .i64)) (oSl 9 (oRd eStr)))) ((0 : Int), ([] : List (List UInt8))) []⟩] A w := hI.left hdn [(0, ob (.pointer (some ⟨b1_0, 0, none⟩)) (.box w0.heap.size 120 E_impl_IndexedSet p0)), (1, ⟨u2, S3, trR (geB w0.heap.size) (oPt 91 (oPr (oRd (eInt .i64)) (oSl 9 (oRd eStr)))) ((0 : Int), ([] : List (List UInt8))) []⟩)] ⟨rfl, rfl, e_b1_0, rfl, rfl, ⟨rfl, rfl, e_u2, eS_u2, rfl, trivial⟩⟩
  replace hA := hI.avok
  clear hI
  refine HT.seq ?_
  refine HT.textR [ob (.pointer (some ⟨b1_0, 0, none⟩)) (.box w0.heap.size 120 E_impl_IndexedSet p0), ⟨u2, S3, trR (geB w0.heap.size) (oPt 91 (oPr (oRd (eInt .i64)) (oSl 9 (oRd eStr)))) ((0 : Int), ([] : List (List UInt8))) []⟩] (⟨_, true, [], some (trR (geB w0.heap.size) (oPt 91 (oPr (oRd (eInt .i64)) (oSl 9 (oRd eStr)))) ((0 : Int), ([] : List (List UInt8))) []), true, fun A => .any⟩ :: []) (by kernel_rfl) (by kernel_rfl) (Wf.mk' (by kernel_rfl) (UAll.cons ust_any (UAll.nil)) (by kernel_rfl) (by kernel_rfl)) hO hA ?_ ?_
  · exact
      OblsR.cons (OblR.madeS _ rfl rfl rfl rfl fun A' R' w' ho hd => by exact made_allocT Try.zeroValue91 (fun A w => own_pr (own_rd rep1_int) own_nil) (fun k hk => Nat.le_trans (Nat.le_trans hF.size ho.ch.size) hk)) <|
      OblsR.nil
  intro done ρ σ A R w hdn hI
  replace h1 : R 1 = (.pointer (some ⟨b1_0, 0, none⟩)) := (hI.reg rfl).trans h1
  replace h2 : R 2 = u2 := (hI.reg rfl).trans h2
  have z4 := hI.inivR 0 rfl
  have z5 := hI.inivR 1 rfl
  obtain ⟨u6, e_u6⟩ : ∃ u, ρ 2 = u := ⟨_, rfl⟩
  have h3 : R 3 = u6 := (hI.opvR hdn 2 0 rfl rfl rfl rfl rfl).symm.trans e_u6
  have eS_u2 := hI.inisR 1 rfl
  obtain ⟨S7, eS_u6⟩ : ∃ S, σ 2 = S := ⟨_, rfl⟩
  replace hAA := hI.low' hAA hA0 (hO.ge (⟨rfl, ⟨fun _ h => h, trivial⟩⟩))
  replace hF : Fr w0 w := hF.tr hI.ch (hO.ge (⟨rfl, ⟨fun _ h => h, trivial⟩⟩))
  replace hO : IniOK [ob (.pointer (some ⟨b1_0, 0, none⟩)) (.box w0.heap.size 120 E_impl_IndexedSet p0), ⟨u2, S3, trR (geB w0.heap.size) (oPt 91 (oPr (oRd (eInt .i64)) (oSl 9 (oRd eStr)))) ((0 : Int), ([] : List (List UInt8))) []⟩, ⟨u6, S7, trR (geB w0.heap.size) (oPt 91 (oPr (oRd (eInt .i64)) (oSl 9 (oRd eStr)))) ((0 : Int), ([] : List (List UInt8))) []⟩] A w := hI.left hdn [(0, ob (.pointer (some ⟨b1_0, 0, none⟩)) (.box w0.heap.size 120 E_impl_IndexedSet p0)), (1, ⟨u2, S3, trR (geB w0.heap.size) (oPt 91 (oPr (oRd (eInt .i64)) (oSl 9 (oRd eStr)))) ((0 : Int), ([] : List (List UInt8))) []⟩), (2, ⟨u6, S7, trR (geB w0.heap.size) (oPt 91 (oPr (oRd (eInt .i64)) (oSl 9 (oRd eStr)))) ((0 : Int), ([] : List (List UInt8))) []⟩)] ⟨rfl, rfl, z4, rfl, rfl, ⟨rfl, rfl, z5, eS_u2, rfl, ⟨rfl, rfl, e_u6, eS_u6, rfl, trivial⟩⟩⟩
  replace hA := hI.avok
  clear hI
  refine HT.seq ?_
  refine HT.textR [ob (.pointer (some ⟨b1_0, 0, none⟩)) (.box w0.heap.size 120 E_impl_IndexedSet p0), ⟨u2, S3, trR (geB w0.heap.size) (oPt 91 (oPr (oRd (eInt .i64)) (oSl 9 (oRd eStr)))) ((0 : Int), ([] : List (List UInt8))) []⟩, ⟨u6, S7, trR (geB w0.heap.size) (oPt 91 (oPr (oRd (eInt .i64)) (oSl 9 (oRd eStr)))) ((0 : Int), ([] : List (List UInt8))) []⟩] (⟨_, true, [], none, true, fun A => .raw (.pointer (some ⟨b1_0, 0, none⟩))⟩ :: ⟨_, true, [], none, true, fun A => .raw (.int .i64 p0.1)⟩ :: ⟨_, true, [], none, true, fun A => .raw u6⟩ :: ⟨_, true, [2], some (trR (geB w0.heap.size) (oPt 91 (oPr (oRd (eInt .i64)) (oSl 9 (oRd eStr)))) (p0.1, ([] : List (List UInt8))) []), false, fun A => .any⟩ :: []) (by kernel_rfl) (by kernel_rfl) (Wf.mk' (by kernel_rfl) (UAll.cons ust_raw (UAll.cons ust_raw (UAll.cons ust_raw (UAll.cons ust_any (UAll.nil))))) (by kernel_rfl) (by kernel_rfl)) hO hA ?_ ?_
  · exact
      OblsR.cons (OblR.plain rfl rfl rfl rfl fun A' R' w' ho hd => by have a0 : R' 1 = (.pointer (some ⟨b1_0, 0, none⟩)) := (ho.old 1 rfl).trans h1; exact of_fieldAddr_raw a0 ff_120_0 Try.sizeOf3 (by decide) rfl) <|
      OblsR.cons (OblR.plain rfl rfl rfl rfl fun A' R' w' ho hd => by have a0 : R' 4 = (.pointer (some ⟨b1_0, 0, none⟩)) := hd 0 _ _ _ rfl rfl rfl rfl rfl; exact OpF.int (of_load_box (ho.rd 0 _ rfl rfl) a0 fl_impl_IndexedSet_0 rfl Try.isAgg3 Try.sizeOf3)) <|
      OblsR.cons (OblR.plain rfl rfl rfl rfl fun A' R' w' ho hd => by have a0 : R' 3 = u6 := (ho.old 3 rfl).trans h3; exact of_fieldAddr_tr ((tr_root (hO.own 2 _ rfl).2).ptr).ad a0 ff_91_0 Try.sizeOf3 (by decide) (padd_zero ((tr_root (hO.own 2 _ rfl).2).ptr).ad)) <|
      OblsR.cons (OblR.tookS 2 _ _ rfl rfl rfl rfl rfl fun A' R' w' ho hd u S hok hown hav hin hop hds => by have a0 : R' 6 = u6 := hd 0 _ _ _ rfl rfl rfl rfl rfl; have a1 : R' 5 = .int .i64 p0.1 := hd 1 _ _ _ rfl rfl rfl rfl rfl; have e0 := (hin _ rfl).1; rw [e0] at hown ⊢; exact took_hstore ((tr_root hown.2).ptr).fst (rep_int.eq a1) a0 hav hown.1 Try.sizeOf3 (fun _ _ _ h => h)) <|
      OblsR.nil
  intro done ρ σ A R w hdn hI
  replace h1 : R 1 = (.pointer (some ⟨b1_0, 0, none⟩)) := (hI.reg rfl).trans h1
  replace h2 : R 2 = u2 := (hI.reg rfl).trans h2
  replace h3 : R 3 = u6 := (hI.reg rfl).trans h3
  have z8 := hI.inivR 0 rfl
  have z9 := hI.inivR 1 rfl
  have z10 := hI.inivR 2 rfl
  have z11 := (hI.opnR hdn 6 3 rfl rfl rfl rfl rfl).trans z10
  have eS_u2 := hI.inisR 1 rfl
  obtain ⟨S12, eS_u6⟩ : ∃ S, σ 6 = S := ⟨_, rfl⟩
  replace hAA := hI.low' hAA hA0 (hO.ge (⟨rfl, ⟨fun _ h => h, ⟨fun _ h => h, trivial⟩⟩⟩))
  replace hF : Fr w0 w := hF.tr hI.ch (hO.ge (⟨rfl, ⟨fun _ h => h, ⟨fun _ h => h, trivial⟩⟩⟩))
  replace hO : IniOK [ob (.pointer (some ⟨b1_0, 0, none⟩)) (.box w0.heap.size 120 E_impl_IndexedSet p0), ⟨u2, S3, trR (geB w0.heap.size) (oPt 91 (oPr (oRd (eInt .i64)) (oSl 9 (oRd eStr)))) ((0 : Int), ([] : List (List UInt8))) []⟩, ⟨u6, S12, trR (geB w0.heap.size) (oPt 91 (oPr (oRd (eInt .i64)) (oSl 9 (oRd eStr)))) (p0.1, ([] : List (List UInt8))) []⟩] A w := hI.left hdn [(0, ob (.pointer (some ⟨b1_0, 0, none⟩)) (.box w0.heap.size 120 E_impl_IndexedSet p0)), (1, ⟨u2, S3, trR (geB w0.heap.size) (oPt 91 (oPr (oRd (eInt .i64)) (oSl 9 (oRd eStr)))) ((0 : Int), ([] : List (List UInt8))) []⟩), (6, ⟨u6, S12, trR (geB w0.heap.size) (oPt 91 (oPr (oRd (eInt .i64)) (oSl 9 (oRd eStr)))) (p0.1, ([] : List (List UInt8))) []⟩)] ⟨rfl, rfl, z8, rfl, rfl, ⟨rfl, rfl, z9, eS_u2, rfl, ⟨rfl, rfl, z11, eS_u6, rfl, trivial⟩⟩⟩
  replace hA := hI.avok
  clear hI
  refine HT.seq ?_
  obtain ⟨x13, q14, hr⟩ := cl_some hr
  refine HT.textR [ob (.pointer (some ⟨b1_0, 0, none⟩)) (.box w0.heap.size 120 E_impl_IndexedSet p0), ⟨u2, S3, trR (geB w0.heap.size) (oPt 91 (oPr (oRd (eInt .i64)) (oSl 9 (oRd eStr)))) ((0 : Int), ([] : List (List UInt8))) []⟩, ⟨u6, S12, trR (geB w0.heap.size) (oPt 91 (oPr (oRd (eInt .i64)) (oSl 9 (oRd eStr)))) (p0.1, ([] : List (List UInt8))) []⟩] (⟨_, true, [], none, true, fun A => .raw (.pointer (some ⟨b1_0, 1, none⟩))⟩ :: ⟨_, true, [], none, true, fun A => .rep (eSl eStr) A p0.2⟩ :: ⟨_, true, [], some (.vec w0.heap.size 9 eStr x13), true, fun A => .any⟩ :: ⟨_, true, [], none, true, fun A => .raw (padd u6 1)⟩ :: ⟨_, true, [2, 5], some (trR (geB w0.heap.size) (oPt 91 (oPr (oRd (eInt .i64)) (oSl 9 (oRd eStr)))) (p0.1, x13) []), false, fun A => .any⟩ :: []) (by kernel_rfl) (by kernel_rfl) (Wf.mk' (by kernel_rfl) (UAll.cons ust_raw (UAll.cons ust_rep (UAll.cons ust_any (UAll.cons ust_raw (UAll.cons ust_any (UAll.nil)))))) (by kernel_rfl) (by kernel_rfl)) hO hA ?_ ?_
  · exact
      OblsR.cons (OblR.plain rfl rfl rfl rfl fun A' R' w' ho hd => by have a0 : R' 1 = (.pointer (some ⟨b1_0, 0, none⟩)) := (ho.old 1 rfl).trans h1; exact of_fieldAddr_raw a0 ff_120_1 Try.sizeOf23 (by decide) rfl) <|
      OblsR.cons (OblR.plain rfl rfl rfl rfl fun A' R' w' ho hd => by have a0 : R' 7 = (.pointer (some ⟨b1_0, 1, none⟩)) := hd 0 _ _ _ rfl rfl rfl rfl rfl; exact (of_load_box (ho.rd 0 _ rfl rfl) a0 fl_impl_IndexedSet_1 rfl Try.isAgg23 Try.sizeOf23)) <|
      OblsR.cons (OblR.made _ rfl rfl rfl rfl fun A' R' w' ho hd => by have a0 : Rep (eSl eStr) A' w' (R' 8) p0.2 := hd 0 _ _ _ rfl rfl rfl rfl rfl; exact made_call Try.call17 (M_laws_toStringS_ok (q14 rfl) ho.av a0) (Nat.le_trans hF.size ho.ch.size)) <|
      OblsR.cons (OblR.plain rfl rfl rfl rfl fun A' R' w' ho hd => by have a0 : R' 3 = u6 := (ho.old 3 rfl).trans h3; exact of_fieldAddr_tr ((tr_root (hO.own 2 _ rfl).2).ptr).ad a0 ff_91_1 Try.sizeOf23 (by decide) rfl) <|
      OblsR.cons (OblR.tookM 2 [5] _ rfl rfl rfl rfl fun A' R' w' ho hd ρ σ hok hav hin hop hds hdd => by have a0 : R' 10 = (padd u6 1) := hd 0 _ _ _ rfl rfl rfl rfl rfl; have k1 := hok 2 (.head _) _ rfl; have e0 := (hin 2 (.head _) _ rfl).1; rw [e0] at k1 ⊢; exact took_put2 rfl (((tr_root k1.2.2).ptr).snd rfl) (own_of_vec' (hok 5 (.tail _ (.head _)) _ rfl).1 (hok 5 (.tail _ (.head _)) _ rfl).2) (hop 5 (.tail _ (.head _)) _ _ rfl rfl rfl rfl).symm a0 hav hdd k1.2.1 (vec_ge (hok 5 (.tail _ (.head _)) _ rfl).1 (hok 5 (.tail _ (.head _)) _ rfl).2) Try.sizeOf23 (fun _ _ _ h => h)) <|
      OblsR.nil
  intro done ρ σ A R w hdn hI
  replace h2 : R 2 = u2 := (hI.reg rfl).trans h2
  replace h3 : R 3 = u6 := (hI.reg rfl).trans h3
  have z15 := hI.inivR 0 rfl
  have z16 := hI.inivR 1 rfl
  have z17 := hI.inivR 2 rfl
  have z18 := (hI.opnR hdn 7 4 rfl rfl rfl rfl rfl).trans z17
  have eS_u2 := hI.inisR 1 rfl
  obtain ⟨S19, eS_u6⟩ : ∃ S, σ 7 = S := ⟨_, rfl⟩
  replace hAA := hI.low' hAA hA0 (hO.ge (⟨rfl, ⟨fun _ h => h, ⟨fun _ h => h, trivial⟩⟩⟩))
  replace hF : Fr w0 w := hF.tr hI.ch (hO.ge (⟨rfl, ⟨fun _ h => h, ⟨fun _ h => h, trivial⟩⟩⟩))
  replace hO : IniOK [⟨u2, S3, trR (geB w0.heap.size) (oPt 91 (oPr (oRd (eInt .i64)) (oSl 9 (oRd eStr)))) ((0 : Int), ([] : List (List UInt8))) []⟩, ⟨u6, S19, trR (geB w0.heap.size) (oPt 91 (oPr (oRd (eInt .i64)) (oSl 9 (oRd eStr)))) (p0.1, x13) []⟩] A w := hI.left hdn [(1, ⟨u2, S3, trR (geB w0.heap.size) (oPt 91 (oPr (oRd (eInt .i64)) (oSl 9 (oRd eStr)))) ((0 : Int), ([] : List (List UInt8))) []⟩), (7, ⟨u6, S19, trR (geB w0.heap.size) (oPt 91 (oPr (oRd (eInt .i64)) (oSl 9 (oRd eStr)))) (p0.1, x13) []⟩)] ⟨rfl, rfl, z16, eS_u2, rfl, ⟨rfl, rfl, z18, eS_u6, rfl, trivial⟩⟩
  replace hA := hI.avok
  clear hI
  refine HT.seq ?_
  refine HT.textR [⟨u2, S3, trR (geB w0.heap.size) (oPt 91 (oPr (oRd (eInt .i64)) (oSl 9 (oRd eStr)))) ((0 : Int), ([] : List (List UInt8))) []⟩, ⟨u6, S19, trR (geB w0.heap.size) (oPt 91 (oPr (oRd (eInt .i64)) (oSl 9 (oRd eStr)))) (p0.1, x13) []⟩] (⟨_, true, [1], some (trR (geB w0.heap.size) (oPr (oRd (eInt .i64)) (oSl 9 (oRd eStr))) (p0.1, x13) []), true, fun A => .any⟩ :: ⟨_, true, [0, 2], some (trR (geB w0.heap.size) (oPt 91 (oPr (oRd (eInt .i64)) (oSl 9 (oRd eStr)))) (p0.1, x13) []), false, fun A => .any⟩ :: []) (by kernel_rfl) (by kernel_rfl) (Wf.mk' (by kernel_rfl) (UAll.cons ust_any (UAll.cons ust_any (UAll.nil))) (by kernel_rfl) (by kernel_rfl)) hO hA ?_ ?_
  · exact
      OblsR.cons (OblR.tookS 1 _ _ rfl rfl rfl rfl rfl fun A' R' w' ho hd u S hok hown hav hin hop hds => by have a0 : R' 3 = u6 := (ho.old 3 rfl).trans h3; exact took_loadT hown.2 (a0.trans (hin _ rfl).1.symm) hav hown.1 Try.isAgg91 Try.sizeOf91) <|
      OblsR.cons (OblR.tookM 0 [2] _ rfl rfl rfl rfl fun A' R' w' ho hd ρ σ hok hav hin hop hds hdd => by have a0 : R' 2 = u2 := (ho.old 2 rfl).trans h2; have k1 := hok 0 (.head _) _ rfl; have e0 := (hin 0 (.head _) _ rfl).1; rw [e0] at k1 ⊢; exact took_put2 rfl (tr_root k1.2.2).ptr (hok 2 (.tail _ (.head _)) _ rfl).2.2.1 (hop 2 (.tail _ (.head _)) _ _ rfl rfl rfl rfl).symm a0 hav hdd k1.2.1 (hok 2 (.tail _ (.head _)) _ rfl).2.1 Try.sizeOf91 (fun _ _ _ h => h)) <|
      OblsR.nil
  intro done ρ σ A R w hdn hI
  replace h2 : R 2 = u2 := (hI.reg rfl).trans h2
  have z20 := hI.inivR 0 rfl
  have z21 := (hI.opnR hdn 3 1 rfl rfl rfl rfl rfl).trans z20
  obtain ⟨S22, eS_u2⟩ : ∃ S, σ 3 = S := ⟨_, rfl⟩
  replace hAA := hI.low' hAA hA0 (hO.ge (⟨fun _ h => h, ⟨fun _ h => h, trivial⟩⟩))
  replace hF : Fr w0 w := hF.tr hI.ch (hO.ge (⟨fun _ h => h, ⟨fun _ h => h, trivial⟩⟩))
  replace hO : IniOK [⟨u2, S22, trR (geB w0.heap.size) (oPt 91 (oPr (oRd (eInt .i64)) (oSl 9 (oRd eStr)))) (p0.1, x13) []⟩] A w := hI.left hdn [(3, ⟨u2, S22, trR (geB w0.heap.size) (oPt 91 (oPr (oRd (eInt .i64)) (oSl 9 (oRd eStr)))) (p0.1, x13) []⟩)] ⟨rfl, rfl, z21, eS_u2, rfl, trivial⟩
  replace hA := hI.avok
  clear hI
  refine HT.ret ?_
  obtain rfl := Option.some.inj hr
  obtain ⟨v_, e_, p_⟩ := tree_post_cell (T := 91) (f := fun _ => .any) rfl (hO.own 0 _ rfl) (hO.ok 0 _ rfl).2 hAA hF h2 Try.isAgg91 Try.sizeOf91 (fun _ _ => trivial)
  exact ⟨.inr rfl, [v_], ⟨e_, trivial⟩, p_⟩
theorem M_laws_toIndexedSet_okR {fu : Nat} {A0 : Av} {p0 : T_impl_IndexedSet} {r : T_impl_IndexedSet} (hr : M_laws_toIndexedSet fu p0 = some r) {w : World} {v0 : Value} (hA : AvOK A0 w) (h0 : Rep E_impl_IndexedSet A0 w v0 p0) :
    Calls Try.prog 113 #[v0] w fun e w' => ∃ v, e = .returned v ∧ (Rep E_impl_IndexedSet A0 w' v r ∧ Fr w w') := by
  refine Calls.mono (M_laws_toIndexedSet_ok hr hA h0) ?_
  rintro e w' ⟨v, he, h⟩
  exact ⟨v, he, madeS_rep h hA⟩
def M_laws_toIndexedSetS_L0 (fu : Nat) (p0 : List T_impl_IndexedSet) : Nat → Int → (List T_impl_IndexedSet) → Option (List T_impl_IndexedSet)
  | 0, _, _ => none
  | k + 1, y7, y8 =>
    bif (decide (y7 < (p0.length : Int))) then (
      ck (inR y7 p0.length) <|
      cl true (M_laws_toIndexedSet fu (gtD p0 y7)) fun x11 =>
      ck (inR y7 y8.length) <|
      ck (i64B (y7 + (1 : Int))) <|
      M_laws_toIndexedSetS_L0 fu p0 k (y7 + (1 : Int)) (y8.set y7.toNat x11)
    ) else (
      some y8
    )
def M_laws_toIndexedSetS (fu : Nat) (p0 : List T_impl_IndexedSet) : Option (List T_impl_IndexedSet) :=
  ck (mkOK (p0.length : Int)) <|
  cl true (M_laws_toIndexedSetS_L0 fu p0 fu (0 : Int) (List.replicate (p0.length : Int).toNat ((0 : Int), ([] : List (List UInt8))))) fun s6 =>
  some s6
set_option maxRecDepth 100000 in
set_option maxHeartbeats 4000000 in
theorem M_laws_toIndexedSetS_ok {fu : Nat} {A0 : Av} {p0 : List T_impl_IndexedSet} {r : List T_impl_IndexedSet} (hr : M_laws_toIndexedSetS fu p0 = some r) {w : World} {v0 : Value} (hA : AvOK A0 w) (h0 : Rep (eSl E_impl_IndexedSet) A0 w v0 p0) :
    Calls Try.prog 81 #[v0] w fun e w' => ∃ v, e = .returned v ∧ (MadeS A0 (trR (geB w.heap.size) (oSl 91 (oPr (oRd (eInt .i64)) (oSl 9 (oRd eStr)))) r []) (fun _ => .any) w v w') := by
  unfold M_laws_toIndexedSetS at hr
  obtain ⟨w0, hw0⟩ : ∃ w0, w0 = w := ⟨_, rfl⟩
  have hF : Fr w0 w := hw0 ▸ Fr.refl _
  have hA0 : ∀ b o, A0 b o → b < w0.heap.size := fun b o h => hw0 ▸ hA b o h
  have hA00 : AvOK A0 w0 := hA0
  rw [show MadeS A0 (trR (geB w.heap.size) (oSl 91 (oPr (oRd (eInt .i64)) (oSl 9 (oRd eStr)))) r []) (fun _ => .any) w = MadeS A0 (trR (geB w0.heap.size) (oSl 91 (oPr (oRd (eInt .i64)) (oSl 9 (oRd eStr)))) r []) (fun _ => .any) w0 from hw0 ▸ rfl]
  clear hw0
  obtain ⟨A, hAe⟩ : ∃ A, A = A0 := ⟨_, rfl⟩
  have hAA : ∀ b o, A0 b o → A b o := fun b o h => hAe ▸ h
  replace hA : AvOK A w := hAe ▸ hA
  have hO : IniOK [] A w := IniOK.nil
  refine calls_of_HT2 [.tmp 2] Try.func81 Try.ntmps81 (by decide) rfl rfl (Nat.le_of_ble_eq_true rfl) ?_
  intro R hR
  have f_v0 : Rep (eSl E_impl_IndexedSet) A w v0 p0 := hAe ▸ h0
  replace h0 : R 0 = v0 := hR 0 _ rfl
  clear hR hAe
  refine HT.seq ?_
  refine HT.text (l := ⟨_, true, .any⟩ :: []) (tl := []) (by kernel_rfl) (by kernel_rfl) (by kernel_rfl) ?_ ?_
  · exact
      Obls.cons (Obl.plain rfl rfl fun R' w' hw hs hd => by exact of_assign trivial) <|
      Obls.nil
  intro R w hw hs hF'
  replace h0 : R 0 = v0 := (hs 0 rfl).trans h0
  replace f_v0 := f_v0.fr hw
  replace hO := hO.fr hw
  replace hA := hA.fr hw.size
  replace hF := hF.trans hw
  clear hs hF' hw
  refine seqR_nil ?_
  refine HT.seq ?_
  obtain ⟨e1, hr⟩ := ck_some hr
  refine HT.textR [] (⟨_, true, [], none, true, fun A => .raw v0⟩ :: ⟨_, true, [], none, true, fun A => .raw (.int .i64 (p0.length : Int))⟩ :: ⟨_, true, [], some (trR (geB w0.heap.size) (oSl 91 (oPr (oRd (eInt .i64)) (oSl 9 (oRd eStr)))) (List.replicate (p0.length : Int).toNat ((0 : Int), ([] : List (List UInt8)))) []), true, fun A => .any⟩ :: ⟨_, true, [2], some (trR (geB w0.heap.size) (oSl 91 (oPr (oRd (eInt .i64)) (oSl 9 (oRd eStr)))) (List.replicate (p0.length : Int).toNat ((0 : Int), ([] : List (List UInt8)))) []), true, fun A => .any⟩ :: []) (by kernel_rfl) (by kernel_rfl) (Wf.mk' (by kernel_rfl) (UAll.cons ust_raw (UAll.cons ust_raw (UAll.cons ust_any (UAll.cons ust_any (UAll.nil))))) (by kernel_rfl) (by kernel_rfl)) hO hA ?_ ?_
  · exact
      OblsR.cons (OblR.plain rfl rfl rfl rfl fun A' R' w' ho hd => by have a0 : R' 0 = v0 := (ho.old 0 rfl).trans h0; exact of_move a0) <|
      OblsR.cons (OblR.plain rfl rfl rfl rfl fun A' R' w' ho hd => by have a0 : R' 5 = v0 := hd 0 _ _ _ rfl rfl rfl rfl rfl; have ra0 := (f_v0.stp ho.stp).eq a0; exact of_len_sl (aT := #[]) ra0 Try.underlying42) <|
      OblsR.cons (OblR.madeS _ rfl rfl rfl rfl fun A' R' w' ho hd => by have a0 : R' 6 = .int .i64 (p0.length : Int) := hd 0 _ _ _ rfl rfl rfl rfl rfl; have a1 : R' 6 = .int .i64 (p0.length : Int) := hd 0 _ _ _ rfl rfl rfl rfl rfl; exact made_makeT a0 a1 e1 Try.underlying47 el_91 Try.zeroValue91 (fun A w => own_pr (own_rd rep1_int) own_nil) (fun k hk => Nat.le_trans (Nat.le_trans hF.size ho.ch.size) hk)) <|
      OblsR.cons (OblR.tookS 2 _ _ rfl rfl rfl rfl rfl fun A' R' w' ho hd u S hok hown hav hin hop hds => by exact took_assignT (hop _ _ rfl rfl rfl rfl).symm (trP.nopin hown.2) hav hown.1) <|
      OblsR.nil
  intro done ρ σ A R w hdn hI
  replace h0 : R 0 = v0 := (hI.reg rfl).trans h0
  obtain ⟨u2, e_u2⟩ : ∃ u, ρ 3 = u := ⟨_, rfl⟩
  have h3 : R 3 = u2 := (hI.opvR hdn 3 3 rfl rfl rfl rfl rfl).symm.trans e_u2
  obtain ⟨S3, eS_u2⟩ : ∃ S, σ 3 = S := ⟨_, rfl⟩
  replace f_v0 := f_v0.stp hI.stp
  replace hAA := hI.low' hAA hA0 (hO.ge (trivial))
  replace hF : Fr w0 w := hF.tr hI.ch (hO.ge (trivial))
  replace hO : IniOK [⟨u2, S3, trR (geB w0.heap.size) (oSl 91 (oPr (oRd (eInt .i64)) (oSl 9 (oRd eStr)))) (List.replicate (p0.length : Int).toNat ((0 : Int), ([] : List (List UInt8)))) []⟩] A w := hI.left hdn [(3, ⟨u2, S3, trR (geB w0.heap.size) (oSl 91 (oPr (oRd (eInt .i64)) (oSl 9 (oRd eStr)))) (List.replicate (p0.length : Int).toNat ((0 : Int), ([] : List (List UInt8)))) []⟩)] ⟨rfl, rfl, e_u2, eS_u2, rfl, trivial⟩
  replace hA := hI.avok
  clear hI
  refine HT.seq ?_
  refine HT.seq ?_
  refine HT.text (l := ⟨_, true, .raw (.int .i64 (0 : Int))⟩ :: []) (tl := []) (by kernel_rfl) (by kernel_rfl) (by kernel_rfl) ?_ ?_
  · exact
      Obls.cons (Obl.plain rfl rfl fun R' w' hw hs hd => by exact of_assign rfl) <|
      Obls.nil
  intro R w hw hs hF'
  replace h0 : R 0 = v0 := (hs 0 rfl).trans h0
  replace h3 : R 3 = u2 := (hs 3 rfl).trans h3
  have h4 : R 4 = .int .i64 (0 : Int) := hF' 0 _ _ rfl rfl rfl
  replace f_v0 := f_v0.fr hw
  replace hO := hO.fr hw
  replace hA := hA.fr hw.size
  replace hF := hF.trans hw
  clear hs hF' hw
  refine seqR_nil ?_
  obtain ⟨rl4, q5, hr⟩ := cl_some hr
  replace q5 := q5 rfl
  refine HT.cut0 (fun R w => ∃ A : Av, ∃ (s6 : (List T_impl_IndexedSet)) (So_u2 : Nat → Prop), rl4 = s6 ∧ AvOK A w ∧ Fr w0 w ∧ (∀ b o, A0 b o → A b o) ∧ IniOK [⟨u2, So_u2, trR (geB w0.heap.size) (oSl 91 (oPr (oRd (eInt .i64)) (oSl 9 (oRd eStr)))) s6 []⟩] A w ∧ R 3 = u2) ?_ ?_
  · refine HT.block ?_
    refine HT.loop (fun k R w => ∃ A : Av, ∃ (y7 : Int) (y8 : List T_impl_IndexedSet) (Sl_u2 : Nat → Prop), M_laws_toIndexedSetS_L0 fu p0 k y7 y8 = some rl4 ∧ AvOK A w ∧ Fr w0 w ∧ (∀ b o, A0 b o → A b o) ∧ IniOK [⟨u2, Sl_u2, trR (geB w0.heap.size) (oSl 91 (oPr (oRd (eInt .i64)) (oSl 9 (oRd eStr)))) y8 []⟩] A w ∧ R 0 = v0 ∧ R 3 = u2 ∧ R 4 = .int .i64 y7 ∧ Rep (eSl E_impl_IndexedSet) A w v0 p0) fu ⟨_, _, _, S3, q5, hA, hF, hAA, hO, h0, h3, h4, f_v0⟩ ?_
    have hr0 := hr; clear hr q5
    rintro k R w ⟨A, y7, y8, Sl_u2, hr, hA, hF, hAA, hO, h0, h3, h4, f_v0⟩
    rcases k with _ | k
    · cases (show none = some _ from hr)
    rw [M_laws_toIndexedSetS_L0] at hr
    refine HT.seq ?_
    refine HT.seq ?_
    refine HT.text (l := ⟨_, true, .raw (.int .i64 y7)⟩ :: ⟨_, true, .raw v0⟩ :: ⟨_, true, .raw (.int .i64 (p0.length : Int))⟩ :: ⟨_, true, .raw (.bool (decide (y7 < (p0.length : Int))))⟩ :: []) (tl := []) (by kernel_rfl) (by kernel_rfl) (by kernel_rfl) ?_ ?_
    · exact
        Obls.cons (Obl.plain rfl rfl fun R' w' hw hs hd => by have a0 : R' 4 = .int .i64 y7 := (hs 4 rfl).trans h4; exact of_move a0) <|
        Obls.cons (Obl.plain rfl rfl fun R' w' hw hs hd => by have a0 : R' 0 = v0 := (hs 0 rfl).trans h0; exact of_move a0) <|
        Obls.cons (Obl.plain rfl rfl fun R' w' hw hs hd => by have a0 : R' 9 = v0 := hd 0 _ _ _ rfl rfl rfl rfl rfl; have ra0 := (f_v0.fr hw).eq a0; exact of_len_sl (aT := #[]) ra0 Try.underlying42) <|
        Obls.cons (Obl.plain rfl rfl fun R' w' hw hs hd => by have a0 : R' 8 = .int .i64 y7 := hd 0 _ _ _ rfl rfl rfl rfl rfl; have a1 : R' 10 = .int .i64 (p0.length : Int) := hd 1 _ _ _ rfl rfl rfl rfl rfl; exact of_lss a0 a1) <|
        Obls.nil
    intro R w hw hs hF'
    replace h0 : R 0 = v0 := (hs 0 rfl).trans h0
    replace h3 : R 3 = u2 := (hs 3 rfl).trans h3
    replace h4 : R 4 = .int .i64 y7 := (hs 4 rfl).trans h4
    have h11 : R 11 = .bool (decide (y7 < (p0.length : Int))) := hF' 3 _ _ rfl rfl rfl
    replace f_v0 := f_v0.fr hw
    replace hO := hO.fr hw
    replace hA := hA.fr hw.size
    replace hF := hF.trans hw
    clear hs hF' hw
    refine seqR_nil ?_
    refine HT.cond (decide (y7 < (p0.length : Int))) h11 (fun c9 => ?_) (fun c9 => ?_)
    · have hr := cnd_t c9 hr
      refine HT.skip ?_
      refine HT.seq ?_
      refine HT.block ?_
      obtain ⟨e10, hr⟩ := ck_some hr
      obtain ⟨x11, q12, hr⟩ := cl_some hr
      obtain ⟨e13, hr⟩ := ck_some hr
      refine HT.textR [⟨u2, Sl_u2, trR (geB w0.heap.size) (oSl 91 (oPr (oRd (eInt .i64)) (oSl 9 (oRd eStr)))) y8 []⟩] (⟨_, true, [], none, true, fun A => .raw u2⟩ :: ⟨_, true, [], none, true, fun A => .raw (.int .i64 y7)⟩ :: ⟨_, true, [], none, true, fun A => .raw v0⟩ :: ⟨_, true, [], none, true, fun A => .raw (.int .i64 y7)⟩ :: ⟨_, true, [], none, true, fun A => .qtr E_impl_IndexedSet A (gtD p0 y7)⟩ :: ⟨_, true, [], none, true, fun A => .rep E_impl_IndexedSet A (gtD p0 y7)⟩ :: ⟨_, true, [], some (trR (geB w0.heap.size) (oPr (oRd (eInt .i64)) (oSl 9 (oRd eStr))) x11 []), true, fun A => .any⟩ :: ⟨_, true, [], none, true, fun A => .raw (vptr u2 (y7.toNat * 2))⟩ :: ⟨_, true, [0, 7], some (trR (geB w0.heap.size) (oSl 91 (oPr (oRd (eInt .i64)) (oSl 9 (oRd eStr)))) (y8.set y7.toNat x11) []), false, fun A => .any⟩ :: []) (by kernel_rfl) (by kernel_rfl) (Wf.mk' (by kernel_rfl) (UAll.cons ust_raw (UAll.cons ust_raw (UAll.cons ust_raw (UAll.cons ust_raw (UAll.cons ust_qtr (UAll.cons ust_rep (UAll.cons ust_any (UAll.cons ust_raw (UAll.cons ust_any (UAll.nil)))))))))) (by kernel_rfl) (by kernel_rfl)) hO hA ?_ ?_
      · exact
          OblsR.cons (OblR.plain rfl rfl rfl rfl fun A' R' w' ho hd => by have a0 : R' 3 = u2 := (ho.old 3 rfl).trans h3; exact of_move a0) <|
          OblsR.cons (OblR.plain rfl rfl rfl rfl fun A' R' w' ho hd => by have a0 : R' 4 = .int .i64 y7 := (ho.old 4 rfl).trans h4; exact of_move a0) <|
          OblsR.cons (OblR.plain rfl rfl rfl rfl fun A' R' w' ho hd => by have a0 : R' 0 = v0 := (ho.old 0 rfl).trans h0; exact of_move a0) <|
          OblsR.cons (OblR.plain rfl rfl rfl rfl fun A' R' w' ho hd => by have a0 : R' 4 = .int .i64 y7 := (ho.old 4 rfl).trans h4; exact of_move a0) <|
          OblsR.cons (OblR.plain rfl rfl rfl rfl fun A' R' w' ho hd => by have a0 : R' 16 = v0 := hd 0 _ _ _ rfl rfl rfl rfl rfl; have a1 : R' 17 = .int .i64 y7 := hd 1 _ _ _ rfl rfl rfl rfl rfl; have ra0 := (f_v0.stp ho.stp).eq a0; exact of_indexAddr ra0 a1 Try.underlying42 Try.sizeOf120 e10) <|
          OblsR.cons (OblR.plain rfl rfl rfl rfl fun A' R' w' ho hd => by have a0 : QRep E_impl_IndexedSet A' w' (R' 18) (gtD p0 y7) := hd 0 _ _ _ rfl rfl rfl rfl rfl; exact (of_load a0.ptr Try.isAgg120 Try.sizeOf120)) <|
          OblsR.cons (OblR.madeS _ rfl rfl rfl rfl fun A' R' w' ho hd => by have a0 : Rep E_impl_IndexedSet A' w' (R' 19) (gtD p0 y7) := hd 0 _ _ _ rfl rfl rfl rfl rfl; exact made_callT Try.call113 (M_laws_toIndexedSet_ok (q12 rfl) ho.av a0) (fun k hk => Nat.le_trans (Nat.le_trans hF.size ho.ch.size) hk)) <|
          OblsR.cons (OblR.plain rfl rfl rfl rfl fun A' R' w' ho hd => by have a0 : R' 14 = u2 := hd 0 _ _ _ rfl rfl rfl rfl rfl; have a1 : R' 15 = .int .i64 y7 := hd 1 _ _ _ rfl rfl rfl rfl rfl; exact of_indexAddr_tr (tr_root (hO.own 0 _ rfl).2) a0 a1 Try.underlying47 Try.sizeOf91 e13 rfl) <|
          OblsR.cons (OblR.tookM 0 [7] _ rfl rfl rfl rfl fun A' R' w' ho hd ρ σ hok hav hin hop hds hdd => by have a0 : R' 21 = (vptr u2 (y7.toNat * 2)) := hd 0 _ _ _ rfl rfl rfl rfl rfl; have k1 := hok 0 (.head _) _ rfl; have e0 := (hin 0 (.head _) _ rfl).1; rw [e0] at k1 ⊢; exact took_put2 rfl ((tr_root k1.2.2).elem e13 rfl) (hok 7 (.tail _ (.head _)) _ rfl).2.2.1 (hop 7 (.tail _ (.head _)) _ _ rfl rfl rfl rfl).symm a0 hav hdd k1.2.1 (hok 7 (.tail _ (.head _)) _ rfl).2.1 Try.sizeOf91 (fun _ _ _ h => h)) <|
          OblsR.nil
      intro done ρ σ A R w hdn hI
      replace h0 : R 0 = v0 := (hI.reg rfl).trans h0
      replace h3 : R 3 = u2 := (hI.reg rfl).trans h3
      replace h4 : R 4 = .int .i64 y7 := (hI.reg rfl).trans h4
      have z14 := hI.inivR 0 rfl
      have z15 := (hI.opnR hdn 9 8 rfl rfl rfl rfl rfl).trans z14
      obtain ⟨S16, eS_u2⟩ : ∃ S, σ 9 = S := ⟨_, rfl⟩
      replace f_v0 := f_v0.stp hI.stp
      replace hAA := hI.low' hAA hA0 (hO.ge (⟨fun _ h => h, trivial⟩))
      replace hF : Fr w0 w := hF.tr hI.ch (hO.ge (⟨fun _ h => h, trivial⟩))
      replace hO : IniOK [⟨u2, S16, trR (geB w0.heap.size) (oSl 91 (oPr (oRd (eInt .i64)) (oSl 9 (oRd eStr)))) (y8.set y7.toNat x11) []⟩] A w := hI.left hdn [(9, ⟨u2, S16, trR (geB w0.heap.size) (oSl 91 (oPr (oRd (eInt .i64)) (oSl 9 (oRd eStr)))) (y8.set y7.toNat x11) []⟩)] ⟨rfl, rfl, z15, eS_u2, rfl, trivial⟩
      replace hA := hI.avok
      clear hI
      obtain ⟨e17, hr⟩ := ck_some hr
      refine HT.text (l := ⟨_, true, .raw (.int .i64 y7)⟩ :: ⟨_, true, .raw (.int .i64 (y7 + (1 : Int)))⟩ :: ⟨_, true, .raw (.int .i64 (y7 + (1 : Int)))⟩ :: []) (tl := []) (by kernel_rfl) (by kernel_rfl) (by kernel_rfl) ?_ ?_
      · exact
          Obls.cons (Obl.plain rfl rfl fun R' w' hw hs hd => by have a0 : R' 4 = .int .i64 y7 := (hs 4 rfl).trans h4; exact of_move a0) <|
          Obls.cons (Obl.plain rfl rfl fun R' w' hw hs hd => by have a0 : R' 12 = .int .i64 y7 := hd 0 _ _ _ rfl rfl rfl rfl rfl; exact of_add a0 rfl e17) <|
          Obls.cons (Obl.plain rfl rfl fun R' w' hw hs hd => by have a0 : R' 13 = .int .i64 (y7 + (1 : Int)) := hd 0 _ _ _ rfl rfl rfl rfl rfl; exact of_assign a0) <|
          Obls.nil
      intro R w hw hs hF'
      replace h0 : R 0 = v0 := (hs 0 rfl).trans h0
      replace h3 : R 3 = u2 := (hs 3 rfl).trans h3
      have h4 : R 4 = .int .i64 (y7 + (1 : Int)) := hF' 2 _ _ rfl rfl rfl
      replace f_v0 := f_v0.fr hw
      replace hO := hO.fr hw
      replace hA := hA.fr hw.size
      replace hF := hF.trans hw
      clear hs hF' hw
      refine seqR_nil ?_
      exact Exists.intro k (And.intro (Nat.lt_succ_self k) ⟨_, _, _, S16, hr, hA, hF, hAA, hO, h0, h3, h4, f_v0⟩)
    · have hr := cnd_f c9 hr
      refine HT.exit ?_
      obtain rfl := Option.some.inj hr
      exact Exists.intro _ ⟨_, Sl_u2, rfl, hA, hF, hAA, hO, h3⟩
  rintro R w ⟨A, s6, So_u2, es, hA, hF, hAA, hO, h3⟩
  obtain rfl := es.symm
  refine HT.seq ?_
  refine HT.textR [⟨u2, So_u2, trR (geB w0.heap.size) (oSl 91 (oPr (oRd (eInt .i64)) (oSl 9 (oRd eStr)))) s6 []⟩] (⟨_, true, [], none, true, fun A => .raw u2⟩ :: ⟨_, true, [], none, true, fun A => .raw u2⟩ :: []) (by kernel_rfl) (by kernel_rfl) (Wf.mk' (by kernel_rfl) (UAll.cons ust_raw (UAll.cons ust_raw (UAll.nil))) (by kernel_rfl) (by kernel_rfl)) hO hA ?_ ?_
  · exact
      OblsR.cons (OblR.plain rfl rfl rfl rfl fun A' R' w' ho hd => by have a0 : R' 3 = u2 := (ho.old 3 rfl).trans h3; exact of_move a0) <|
      OblsR.cons (OblR.plain rfl rfl rfl rfl fun A' R' w' ho hd => by have a0 : R' 22 = u2 := hd 0 _ _ _ rfl rfl rfl rfl rfl; exact of_assign a0) <|
      OblsR.nil
  intro done ρ σ A R w hdn hI
  have z18 := hI.inivR 0 rfl
  have eS_u2 := hI.inisR 0 rfl
  have h2 : R 2 = u2 := hI.fact hdn (i := 1) rfl rfl rfl
  replace hAA := hI.low' hAA hA0 (hO.ge (⟨fun _ h => h, trivial⟩))
  replace hF : Fr w0 w := hF.tr hI.ch (hO.ge (⟨fun _ h => h, trivial⟩))
  replace hO : IniOK [⟨u2, So_u2, trR (geB w0.heap.size) (oSl 91 (oPr (oRd (eInt .i64)) (oSl 9 (oRd eStr)))) s6 []⟩] A w := hI.left hdn [(0, ⟨u2, So_u2, trR (geB w0.heap.size) (oSl 91 (oPr (oRd (eInt .i64)) (oSl 9 (oRd eStr)))) s6 []⟩)] ⟨rfl, rfl, z18, eS_u2, rfl, trivial⟩
  replace hA := hI.avok
  clear hI
  refine HT.ret ?_
  obtain rfl := Option.some.inj hr
  exact ⟨.inr rfl, [R 2], ⟨rfl, trivial⟩, tree_post rfl (hO.own 0 _ rfl) (hO.ok 0 _ rfl).2 hAA hF h2 trivial⟩
theorem M_laws_toIndexedSetS_okR {fu : Nat} {A0 : Av} {p0 : List T_impl_IndexedSet} {r : List T_impl_IndexedSet} (hr : M_laws_toIndexedSetS fu p0 = some r) {w : World} {v0 : Value} (hA : AvOK A0 w) (h0 : Rep (eSl E_impl_IndexedSet) A0 w v0 p0) :
    Calls Try.prog 81 #[v0] w fun e w' => ∃ v, e = .returned v ∧ (Rep (eSl E_impl_IndexedSet) A0 w' v r ∧ Fr w w') := by
  refine Calls.mono (M_laws_toIndexedSetS_ok hr hA h0) ?_
  rintro e w' ⟨v, he, h⟩
  exact ⟨v, he, madeS_rep h hA⟩
def M_laws_toSetIndex (fu : Nat) (p0 : T_laws_SetIndex) : Option T_impl_SetIndex :=
  cl true (M_laws_toTokenCountS fu p0.2.1) fun x13 =>
  cl true (M_laws_toIndexedSetS fu p0.2.2) fun x20 =>
  some (p0.1, x13, x20)
set_option maxRecDepth 100000 in
set_option maxHeartbeats 4000000 in
theorem M_laws_toSetIndex_ok {fu : Nat} {A0 : Av} {p0 : T_laws_SetIndex} {r : T_impl_SetIndex} (hr : M_laws_toSetIndex fu p0 = some r) {w : World} {v0 : Value} (hA : AvOK A0 w) (h0 : Rep E_laws_SetIndex A0 w v0 p0) :
    Calls Try.prog 35 #[v0] w fun e w' => ∃ v, e = .returned v ∧ (MadeS A0 (trR (geB w.heap.size) (oPr (oRd (eInt .i64)) (oPr (oSl 76 (oRd E_impl_TokenCount)) (oSl 91 (oPr (oRd (eInt .i64)) (oSl 9 (oRd eStr)))))) r []) (fun _ => .any) w v w') := by
  unfold M_laws_toSetIndex at hr
  obtain ⟨w0, hw0⟩ : ∃ w0, w0 = w := ⟨_, rfl⟩
  have hF : Fr w0 w := hw0 ▸ Fr.refl _
  have hA0 : ∀ b o, A0 b o → b < w0.heap.size := fun b o h => hw0 ▸ hA b o h
  have hA00 : AvOK A0 w0 := hA0
  rw [show MadeS A0 (trR (geB w.heap.size) (oPr (oRd (eInt .i64)) (oPr (oSl 76 (oRd E_impl_TokenCount)) (oSl 91 (oPr (oRd (eInt .i64)) (oSl 9 (oRd eStr)))))) r []) (fun _ => .any) w = MadeS A0 (trR (geB w0.heap.size) (oPr (oRd (eInt .i64)) (oPr (oSl 76 (oRd E_impl_TokenCount)) (oSl 91 (oPr (oRd (eInt .i64)) (oSl 9 (oRd eStr)))))) r []) (fun _ => .any) w0 from hw0 ▸ rfl]
  clear hw0
  obtain ⟨A, hAe⟩ : ∃ A, A = A0 := ⟨_, rfl⟩
  have hAA : ∀ b o, A0 b o → A b o := fun b o h => hAe ▸ h
  replace hA : AvOK A w := hAe ▸ hA
  have hO : IniOK [] A w := IniOK.nil
  refine calls_of_HT2 [.cell 2 49] Try.func35 Try.ntmps35 (by decide) rfl rfl (Nat.le_of_ble_eq_true rfl) ?_
  intro R hR
  have f_v0 : Rep E_laws_SetIndex A w v0 p0 := hAe ▸ h0
  replace h0 : R 0 = v0 := hR 0 _ rfl
  clear hR hAe
  refine HT.seq ?_
  refine HT.textR [] (⟨_, true, [], some (.box w0.heap.size 44 E_laws_SetIndex p0), true, fun A => .any⟩ :: ⟨_, true, [], some (trR (geB w0.heap.size) (oPt 49 (oPr (oRd (eInt .i64)) (oPr (oSl 76 (oRd E_impl_TokenCount)) (oSl 91 (oPr (oRd (eInt .i64)) (oSl 9 (oRd eStr))))))) ((0 : Int), (([] : List T_impl_TokenCount), ([] : List T_impl_IndexedSet))) []), true, fun A => .any⟩ :: []) (by kernel_rfl) (by kernel_rfl) (Wf.mk' (by kernel_rfl) (UAll.cons ust_any (UAll.cons ust_any (UAll.nil))) (by kernel_rfl) (by kernel_rfl)) hO hA ?_ ?_
  · exact
      OblsR.cons (OblR.made _ rfl rfl rfl rfl fun A' R' w' ho hd => by have a0 : R' 0 = v0 := (ho.old 0 rfl).trans h0; have ra0 := (f_v0.stp ho.stp).eq a0; exact made_box ra0 (Nat.le_trans hF.size ho.ch.size)) <|
      OblsR.cons (OblR.madeS _ rfl rfl rfl rfl fun A' R' w' ho hd => by exact made_allocT Try.zeroValue49 (fun A w => own_pr (own_rd rep1_int) (own_pr own_nil own_nil)) (fun k hk => Nat.le_trans (Nat.le_trans hF.size ho.ch.size) hk)) <|
      OblsR.nil
  intro done ρ σ A R w hdn hI
  obtain ⟨b1_0, e_b1_0⟩ := hI.boxv hdn 0 rfl rfl
  have h1 : R 1 = (.pointer (some ⟨b1_0, 0, none⟩)) := (hI.opvR hdn 0 0 rfl rfl rfl rfl rfl).symm.trans e_b1_0
  obtain ⟨u2, e_u2⟩ : ∃ u, ρ 1 = u := ⟨_, rfl⟩
  have h2 : R 2 = u2 := (hI.opvR hdn 1 1 rfl rfl rfl rfl rfl).symm.trans e_u2
  obtain ⟨S3, eS_u2⟩ : ∃ S, σ 1 = S := ⟨_, rfl⟩
  replace hAA := hI.low' hAA hA0 (hO.ge (trivial))
  replace hF : Fr w0 w := hF.tr hI.ch (hO.ge (trivial))
  replace hO : IniOK [ob (.pointer (some ⟨b1_0, 0, none⟩)) (.box w0.heap.size 44 E_laws_SetIndex p0), ⟨u2, S3, trR (geB w0.heap.size) (oPt 49 (oPr (oRd (eInt .i64)) (oPr (oSl 76 (oRd E_impl_TokenCount)) (oSl 91 (oPr (oRd (eInt .i64)) (oSl 9 (oRd eStr))))))) ((0 : Int), (([] : List T_impl_TokenCount), ([] : List T_impl_IndexedSet))) []⟩] A w := hI.left hdn [(0, ob (.pointer (some ⟨b1_0, 0, none⟩)) (.box w0.heap.size 44 E_laws_SetIndex p0)), (1, ⟨u2, S3, trR (geB w0.heap.size) (oPt 49 (oPr (oRd (eInt .i64)) (oPr (oSl 76 (oRd E_impl_TokenCount)) (oSl 91 (oPr (oRd (eInt .i64)) (oSl 9 (oRd eStr))))))) ((0 : Int), (([] : List T_impl_TokenCount), ([] : List T_impl_IndexedSet))) []⟩)] ⟨rfl, rfl, e_b1_0, rfl, rfl, ⟨rfl, rfl, e_u2, eS_u2, rfl, trivial⟩⟩
  replace hA := hI.avok
  clear hI
  refine HT.seq ?_
  refine HT.textR [ob (.pointer (some ⟨b1_0, 0, none⟩)) (.box w0.heap.size 44 E_laws_SetIndex p0), ⟨u2, S3, trR (geB w0.heap.size) (oPt 49 (oPr (oRd (eInt .i64)) (oPr (oSl 76 (oRd E_impl_TokenCount)) (oSl 91 (oPr (oRd (eInt .i64)) (oSl 9 (oRd eStr))))))) ((0 : Int), (([] : List T_impl_TokenCount), ([] : List T_impl_IndexedSet))) []⟩] (⟨_, true, [], some (trR (geB w0.heap.size) (oPt 49 (oPr (oRd (eInt .i64)) (oPr (oSl 76 (oRd E_impl_TokenCount)) (oSl 91 (oPr (oRd (eInt .i64)) (oSl 9 (oRd eStr))))))) ((0 : Int), (([] : List T_impl_TokenCount), ([] : List T_impl_IndexedSet))) []), true, fun A => .any⟩ :: []) (by kernel_rfl) (by kernel_rfl) (Wf.mk' (by kernel_rfl) (UAll.cons ust_any (UAll.nil)) (by kernel_rfl) (by kernel_rfl)) hO hA ?_ ?_
  · exact
      OblsR.cons (OblR.madeS _ rfl rfl rfl rfl fun A' R' w' ho hd => by exact made_allocT Try.zeroValue49 (fun A w => own_pr (own_rd rep1_int) (own_pr own_nil own_nil)) (fun k hk => Nat.le_trans (Nat.le_trans hF.size ho.ch.size) hk)) <|
      OblsR.nil
  intro done ρ σ A R w hdn hI
  replace h1 : R 1 = (.pointer (some ⟨b1_0, 0, none⟩)) := (hI.reg rfl).trans h1
  replace h2 : R 2 = u2 := (hI.reg rfl).trans h2
  have z4 := hI.inivR 0 rfl
  have z5 := hI.inivR 1 rfl
  obtain ⟨u6, e_u6⟩ : ∃ u, ρ 2 = u := ⟨_, rfl⟩
  have h3 : R 3 = u6 := (hI.opvR hdn 2 0 rfl rfl rfl rfl rfl).symm.trans e_u6
  have eS_u2 := hI.inisR 1 rfl
  obtain ⟨S7, eS_u6⟩ : ∃ S, σ 2 = S := ⟨_, rfl⟩
  replace hAA := hI.low' hAA hA0 (hO.ge (⟨rfl, ⟨fun _ h => h, trivial⟩⟩))
  replace hF : Fr w0 w := hF.tr hI.ch (hO.ge (⟨rfl, ⟨fun _ h => h, trivial⟩⟩))
  replace hO : IniOK [ob (.pointer (some ⟨b1_0, 0, none⟩)) (.box w0.heap.size 44 E_laws_SetIndex p0), ⟨u2, S3, trR (geB w0.heap.size) (oPt 49 (oPr (oRd (eInt .i64)) (oPr (oSl 76 (oRd E_impl_TokenCount)) (oSl 91 (oPr (oRd (eInt .i64)) (oSl 9 (oRd eStr))))))) ((0 : Int), (([] : List T_impl_TokenCount), ([] : List T_impl_IndexedSet))) []⟩, ⟨u6, S7, trR (geB w0.heap.size) (oPt 49 (oPr (oRd (eInt .i64)) (oPr (oSl 76 (oRd E_impl_TokenCount)) (oSl 91 (oPr (oRd (eInt .i64)) (oSl 9 (oRd eStr))))))) ((0 : Int), (([] : List T_impl_TokenCount), ([] : List T_impl_IndexedSet))) []⟩] A w := hI.left hdn [(0, ob (.pointer (some ⟨b1_0, 0, none⟩)) (.box w0.heap.size 44 E_laws_SetIndex p0)), (1, ⟨u2, S3, trR (geB w0.heap.size) (oPt 49 (oPr (oRd (eInt .i64)) (oPr (oSl 76 (oRd E_impl_TokenCount)) (oSl 91 (oPr (oRd (eInt .i64)) (oSl 9 (oRd eStr))))))) ((0 : Int), (([] : List T_impl_TokenCount), ([] : List T_impl_IndexedSet))) []⟩), (2, ⟨u6, S7, trR (geB w0.heap.size) (oPt 49 (oPr (oRd (eInt .i64)) (oPr (oSl 76 (oRd E_impl_TokenCount)) (oSl 91 (oPr (oRd (eInt .i64)) (oSl 9 (oRd eStr))))))) ((0 : Int), (([] : List T_impl_TokenCount), ([] : List T_impl_IndexedSet))) []⟩)] ⟨rfl, rfl, z4, rfl, rfl, ⟨rfl, rfl, z5, eS_u2, rfl, ⟨rfl, rfl, e_u6, eS_u6, rfl, trivial⟩⟩⟩
  replace hA := hI.avok
  clear hI
  refine HT.seq ?_
  refine HT.textR [ob (.pointer (some ⟨b1_0, 0, none⟩)) (.box w0.heap.size 44 E_laws_SetIndex p0), ⟨u2, S3, trR (geB w0.heap.size) (oPt 49 (oPr (oRd (eInt .i64)) (oPr (oSl 76 (oRd E_impl_TokenCount)) (oSl 91 (oPr (oRd (eInt .i64)) (oSl 9 (oRd eStr))))))) ((0 : Int), (([] : List T_impl_TokenCount), ([] : List T_impl_IndexedSet))) []⟩, ⟨u6, S7, trR (geB w0.heap.size) (oPt 49 (oPr (oRd (eInt .i64)) (oPr (oSl 76 (oRd E_impl_TokenCount)) (oSl 91 (oPr (oRd (eInt .i64)) (oSl 9 (oRd eStr))))))) ((0 : Int), (([] : List T_impl_TokenCount), ([] : List T_impl_IndexedSet))) []⟩] (⟨_, true, [], none, true, fun A => .raw (.pointer (some ⟨b1_0, 0, none⟩))⟩ :: ⟨_, true, [], none, true, fun A => .raw (.int .i64 p0.1)⟩ :: ⟨_, true, [], none, true, fun A => .raw u6⟩ :: ⟨_, true, [2], some (trR (geB w0.heap.size) (oPt 49 (oPr (oRd (eInt .i64)) (oPr (oSl 76 (oRd E_impl_TokenCount)) (oSl 91 (oPr (oRd (eInt .i64)) (oSl 9 (oRd eStr))))))) (p0.1, ([] : List T_impl_TokenCount), ([] : List T_impl_IndexedSet)) []), false, fun A => .any⟩ :: []) (by kernel_rfl) (by kernel_rfl) (Wf.mk' (by kernel_rfl) (UAll.cons ust_raw (UAll.cons ust_raw (UAll.cons ust_raw (UAll.cons ust_any (UAll.nil))))) (by kernel_rfl) (by kernel_rfl)) hO hA ?_ ?_
  · exact
      OblsR.cons (OblR.plain rfl rfl rfl rfl fun A' R' w' ho hd => by have a0 : R' 1 = (.pointer (some ⟨b1_0, 0, none⟩)) := (ho.old 1 rfl).trans h1; exact of_fieldAddr_raw a0 ff_44_0 Try.sizeOf3 (by decide) rfl) <|
      OblsR.cons (OblR.plain rfl rfl rfl rfl fun A' R' w' ho hd => by have a0 : R' 4 = (.pointer (some ⟨b1_0, 0, none⟩)) := hd 0 _ _ _ rfl rfl rfl rfl rfl; exact OpF.int (of_load_box (ho.rd 0 _ rfl rfl) a0 fl_laws_SetIndex_0 rfl Try.isAgg3 Try.sizeOf3)) <|
      OblsR.cons (OblR.plain rfl rfl rfl rfl fun A' R' w' ho hd => by have a0 : R' 3 = u6 := (ho.old 3 rfl).trans h3; exact of_fieldAddr_tr ((tr_root (hO.own 2 _ rfl).2).ptr).ad a0 ff_49_0 Try.sizeOf3 (by decide) (padd_zero ((tr_root (hO.own 2 _ rfl).2).ptr).ad)) <|
      OblsR.cons (OblR.tookS 2 _ _ rfl rfl rfl rfl rfl fun A' R' w' ho hd u S hok hown hav hin hop hds => by have a0 : R' 6 = u6 := hd 0 _ _ _ rfl rfl rfl rfl rfl; have a1 : R' 5 = .int .i64 p0.1 := hd 1 _ _ _ rfl rfl rfl rfl rfl; have e0 := (hin _ rfl).1; rw [e0] at hown ⊢; exact took_hstore ((tr_root hown.2).ptr).fst (rep_int.eq a1) a0 hav hown.1 Try.sizeOf3 (fun _ _ _ h => h)) <|
      OblsR.nil
  intro done ρ σ A R w hdn hI
  replace h1 : R 1 = (.pointer (some ⟨b1_0, 0, none⟩)) := (hI.reg rfl).trans h1
  replace h2 : R 2 = u2 := (hI.reg rfl).trans h2
  replace h3 : R 3 = u6 := (hI.reg rfl).trans h3
  have z8 := hI.inivR 0 rfl
  have z9 := hI.inivR 1 rfl
  have z10 := hI.inivR 2 rfl
  have z11 := (hI.opnR hdn 6 3 rfl rfl rfl rfl rfl).trans z10
  have eS_u2 := hI.inisR 1 rfl
  obtain ⟨S12, eS_u6⟩ : ∃ S, σ 6 = S := ⟨_, rfl⟩
  replace hAA := hI.low' hAA hA0 (hO.ge (⟨rfl, ⟨fun _ h => h, ⟨fun _ h => h, trivial⟩⟩⟩))
  replace hF : Fr w0 w := hF.tr hI.ch (hO.ge (⟨rfl, ⟨fun _ h => h, ⟨fun _ h => h, trivial⟩⟩⟩))
  replace hO : IniOK [ob (.pointer (some ⟨b1_0, 0, none⟩)) (.box w0.heap.size 44 E_laws_SetIndex p0), ⟨u2, S3, trR (geB w0.heap.size) (oPt 49 (oPr (oRd (eInt .i64)) (oPr (oSl 76 (oRd E_impl_TokenCount)) (oSl 91 (oPr (oRd (eInt .i64)) (oSl 9 (oRd eStr))))))) ((0 : Int), (([] : List T_impl_TokenCount), ([] : List T_impl_IndexedSet))) []⟩, ⟨u6, S12, trR (geB w0.heap.size) (oPt 49 (oPr (oRd (eInt .i64)) (oPr (oSl 76 (oRd E_impl_TokenCount)) (oSl 91 (oPr (oRd (eInt .i64)) (oSl 9 (oRd eStr))))))) (p0.1, ([] : List T_impl_TokenCount), ([] : List T_impl_IndexedSet)) []⟩] A w := hI.left hdn [(0, ob (.pointer (some ⟨b1_0, 0, none⟩)) (.box w0.heap.size 44 E_laws_SetIndex p0)), (1, ⟨u2, S3, trR (geB w0.heap.size) (oPt 49 (oPr (oRd (eInt .i64)) (oPr (oSl 76 (oRd E_impl_TokenCount)) (oSl 91 (oPr (oRd (eInt .i64)) (oSl 9 (oRd eStr))))))) ((0 : Int), (([] : List T_impl_TokenCount), ([] : List T_impl_IndexedSet))) []⟩), (6, ⟨u6, S12, trR (geB w0.heap.size) (oPt 49 (oPr (oRd (eInt .i64)) (oPr (oSl 76 (oRd E_impl_TokenCount)) (oSl 91 (oPr (oRd (eInt .i64)) (oSl 9 (oRd eStr))))))) (p0.1, ([] : List T_impl_TokenCount), ([] : List T_impl_IndexedSet)) []⟩)] ⟨rfl, rfl, z8, rfl, rfl, ⟨rfl, rfl, z9, eS_u2, rfl, ⟨rfl, rfl, z11, eS_u6, rfl, trivial⟩⟩⟩
  replace hA := hI.avok
  clear hI
  refine HT.seq ?_
  obtain ⟨x13, q14, hr⟩ := cl_some hr
  refine HT.textR [ob (.pointer (some ⟨b1_0, 0, none⟩)) (.box w0.heap.size 44 E_laws_SetIndex p0), ⟨u2, S3, trR (geB w0.heap.size) (oPt 49 (oPr (oRd (eInt .i64)) (oPr (oSl 76 (oRd E_impl_TokenCount)) (oSl 91 (oPr (oRd (eInt .i64)) (oSl 9 (oRd eStr))))))) ((0 : Int), (([] : List T_impl_TokenCount), ([] : List T_impl_IndexedSet))) []⟩, ⟨u6, S12, trR (geB w0.heap.size) (oPt 49 (oPr (oRd (eInt .i64)) (oPr (oSl 76 (oRd E_impl_TokenCount)) (oSl 91 (oPr (oRd (eInt .i64)) (oSl 9 (oRd eStr))))))) (p0.1, ([] : List T_impl_TokenCount), ([] : List T_impl_IndexedSet)) []⟩] (⟨_, true, [], none, true, fun A => .raw (.pointer (some ⟨b1_0, 1, none⟩))⟩ :: ⟨_, true, [], none, true, fun A => .rep (eSl E_impl_TokenCount) A p0.2.1⟩ :: ⟨_, true, [], some (.vec w0.heap.size 76 E_impl_TokenCount x13), true, fun A => .any⟩ :: ⟨_, true, [], none, true, fun A => .raw (padd u6 1)⟩ :: ⟨_, true, [2, 5], some (trR (geB w0.heap.size) (oPt 49 (oPr (oRd (eInt .i64)) (oPr (oSl 76 (oRd E_impl_TokenCount)) (oSl 91 (oPr (oRd (eInt .i64)) (oSl 9 (oRd eStr))))))) (p0.1, x13, ([] : List T_impl_IndexedSet)) []), false, fun A => .any⟩ :: []) (by kernel_rfl) (by kernel_rfl) (Wf.mk' (by kernel_rfl) (UAll.cons ust_raw (UAll.cons ust_rep (UAll.cons ust_any (UAll.cons ust_raw (UAll.cons ust_any (UAll.nil)))))) (by kernel_rfl) (by kernel_rfl)) hO hA ?_ ?_
  · exact
      OblsR.cons (OblR.plain rfl rfl rfl rfl fun A' R' w' ho hd => by have a0 : R' 1 = (.pointer (some ⟨b1_0, 0, none⟩)) := (ho.old 1 rfl).trans h1; exact of_fieldAddr_raw a0 ff_44_1 Try.sizeOf22 (by decide) rfl) <|
      OblsR.cons (OblR.plain rfl rfl rfl rfl fun A' R' w' ho hd => by have a0 : R' 7 = (.pointer (some ⟨b1_0, 1, none⟩)) := hd 0 _ _ _ rfl rfl rfl rfl rfl; exact (of_load_box (ho.rd 0 _ rfl rfl) a0 fl_laws_SetIndex_1 rfl Try.isAgg22 Try.sizeOf22)) <|
      OblsR.cons (OblR.made _ rfl rfl rfl rfl fun A' R' w' ho hd => by have a0 : Rep (eSl E_impl_TokenCount) A' w' (R' 8) p0.2.1 := hd 0 _ _ _ rfl rfl rfl rfl rfl; exact made_call Try.call16 (M_laws_toTokenCountS_ok (q14 rfl) ho.av a0) (Nat.le_trans hF.size ho.ch.size)) <|
      OblsR.cons (OblR.plain rfl rfl rfl rfl fun A' R' w' ho hd => by have a0 : R' 3 = u6 := (ho.old 3 rfl).trans h3; exact of_fieldAddr_tr ((tr_root (hO.own 2 _ rfl).2).ptr).ad a0 ff_49_1 Try.sizeOf27 (by decide) rfl) <|
      OblsR.cons (OblR.tookM 2 [5] _ rfl rfl rfl rfl fun A' R' w' ho hd ρ σ hok hav hin hop hds hdd => by have a0 : R' 10 = (padd u6 1) := hd 0 _ _ _ rfl rfl rfl rfl rfl; have k1 := hok 2 (.head _) _ rfl; have e0 := (hin 2 (.head _) _ rfl).1; rw [e0] at k1 ⊢; exact took_put2 rfl (((tr_root k1.2.2).ptr).snd rfl).fst (own_of_vec' (hok 5 (.tail _ (.head _)) _ rfl).1 (hok 5 (.tail _ (.head _)) _ rfl).2) (hop 5 (.tail _ (.head _)) _ _ rfl rfl rfl rfl).symm a0 hav hdd k1.2.1 (vec_ge (hok 5 (.tail _ (.head _)) _ rfl).1 (hok 5 (.tail _ (.head _)) _ rfl).2) Try.sizeOf27 (fun _ _ _ h => h)) <|
      OblsR.nil
  intro done ρ σ A R w hdn hI
  replace h1 : R 1 = (.pointer (some ⟨b1_0, 0, none⟩)) := (hI.reg rfl).trans h1
  replace h2 : R 2 = u2 := (hI.reg rfl).trans h2
  replace h3 : R 3 = u6 := (hI.reg rfl).trans h3
  have z15 := hI.inivR 0 rfl
  have z16 := hI.inivR 1 rfl
  have z17 := hI.inivR 2 rfl
  have z18 := (hI.opnR hdn 7 4 rfl rfl rfl rfl rfl).trans z17
  have eS_u2 := hI.inisR 1 rfl
  obtain ⟨S19, eS_u6⟩ : ∃ S, σ 7 = S := ⟨_, rfl⟩
  replace hAA := hI.low' hAA hA0 (hO.ge (⟨rfl, ⟨fun _ h => h, ⟨fun _ h => h, trivial⟩⟩⟩))
  replace hF : Fr w0 w := hF.tr hI.ch (hO.ge (⟨rfl, ⟨fun _ h => h, ⟨fun _ h => h, trivial⟩⟩⟩))
  replace hO : IniOK [ob (.pointer (some ⟨b1_0, 0, none⟩)) (.box w0.heap.size 44 E_laws_SetIndex p0), ⟨u2, S3, trR (geB w0.heap.size) (oPt 49 (oPr (oRd (eInt .i64)) (oPr (oSl 76 (oRd E_impl_TokenCount)) (oSl 91 (oPr (oRd (eInt .i64)) (oSl 9 (oRd eStr))))))) ((0 : Int), (([] : List T_impl_TokenCount), ([] : List T_impl_IndexedSet))) []⟩, ⟨u6, S19, trR (geB w0.heap.size) (oPt 49 (oPr (oRd (eInt .i64)) (oPr (oSl 76 (oRd E_impl_TokenCount)) (oSl 91 (oPr (oRd (eInt .i64)) (oSl 9 (oRd eStr))))))) (p0.1, x13, ([] : List T_impl_IndexedSet)) []⟩] A w := hI.left hdn [(0, ob (.pointer (some ⟨b1_0, 0, none⟩)) (.box w0.heap.size 44 E_laws_SetIndex p0)), (1, ⟨u2, S3, trR (geB w0.heap.size) (oPt 49 (oPr (oRd (eInt .i64)) (oPr (oSl 76 (oRd E_impl_TokenCount)) (oSl 91 (oPr (oRd (eInt .i64)) (oSl 9 (oRd eStr))))))) ((0 : Int), (([] : List T_impl_TokenCount), ([] : List T_impl_IndexedSet))) []⟩), (7, ⟨u6, S19, trR (geB w0.heap.size) (oPt 49 (oPr (oRd (eInt .i64)) (oPr (oSl 76 (oRd E_impl_TokenCount)) (oSl 91 (oPr (oRd (eInt .i64)) (oSl 9 (oRd eStr))))))) (p0.1, x13, ([] : List T_impl_IndexedSet)) []⟩)] ⟨rfl, rfl, z15, rfl, rfl, ⟨rfl, rfl, z16, eS_u2, rfl, ⟨rfl, rfl, z18, eS_u6, rfl, trivial⟩⟩⟩
  replace hA := hI.avok
  clear hI
  refine HT.seq ?_
  obtain ⟨x20, q21, hr⟩ := cl_some hr
  refine HT.textR [ob (.pointer (some ⟨b1_0, 0, none⟩)) (.box w0.heap.size 44 E_laws_SetIndex p0), ⟨u2, S3, trR (geB w0.heap.size) (oPt 49 (oPr (oRd (eInt .i64)) (oPr (oSl 76 (oRd E_impl_TokenCount)) (oSl 91 (oPr (oRd (eInt .i64)) (oSl 9 (oRd eStr))))))) ((0 : Int), (([] : List T_impl_TokenCount), ([] : List T_impl_IndexedSet))) []⟩, ⟨u6, S19, trR (geB w0.heap.size) (oPt 49 (oPr (oRd (eInt .i64)) (oPr (oSl 76 (oRd E_impl_TokenCount)) (oSl 91 (oPr (oRd (eInt .i64)) (oSl 9 (oRd eStr))))))) (p0.1, x13, ([] : List T_impl_IndexedSet)) []⟩] (⟨_, true, [], none, true, fun A => .raw (.pointer (some ⟨b1_0, 2, none⟩))⟩ :: ⟨_, true, [], none, true, fun A => .rep (eSl E_impl_IndexedSet) A p0.2.2⟩ :: ⟨_, true, [], some (trR (geB w0.heap.size) (oSl 91 (oPr (oRd (eInt .i64)) (oSl 9 (oRd eStr)))) x20 []), true, fun A => .any⟩ :: ⟨_, true, [], none, true, fun A => .raw (padd u6 2)⟩ :: ⟨_, true, [2, 5], some (trR (geB w0.heap.size) (oPt 49 (oPr (oRd (eInt .i64)) (oPr (oSl 76 (oRd E_impl_TokenCount)) (oSl 91 (oPr (oRd (eInt .i64)) (oSl 9 (oRd eStr))))))) (p0.1, x13, x20) []), false, fun A => .any⟩ :: []) (by kernel_rfl) (by kernel_rfl) (Wf.mk' (by kernel_rfl) (UAll.cons ust_raw (UAll.cons ust_rep (UAll.cons ust_any (UAll.cons ust_raw (UAll.cons ust_any (UAll.nil)))))) (by kernel_rfl) (by kernel_rfl)) hO hA ?_ ?_
  · exact
      OblsR.cons (OblR.plain rfl rfl rfl rfl fun A' R' w' ho hd => by have a0 : R' 1 = (.pointer (some ⟨b1_0, 0, none⟩)) := (ho.old 1 rfl).trans h1; exact of_fieldAddr_raw a0 ff_44_2 Try.sizeOf42 (by decide) rfl) <|
      OblsR.cons (OblR.plain rfl rfl rfl rfl fun A' R' w' ho hd => by have a0 : R' 11 = (.pointer (some ⟨b1_0, 2, none⟩)) := hd 0 _ _ _ rfl rfl rfl rfl rfl; exact (of_load_box (ho.rd 0 _ rfl rfl) a0 fl_laws_SetIndex_2 rfl Try.isAgg42 Try.sizeOf42)) <|
      OblsR.cons (OblR.madeS _ rfl rfl rfl rfl fun A' R' w' ho hd => by have a0 : Rep (eSl E_impl_IndexedSet) A' w' (R' 12) p0.2.2 := hd 0 _ _ _ rfl rfl rfl rfl rfl; exact made_callT Try.call81 (M_laws_toIndexedSetS_ok (q21 rfl) ho.av a0) (fun k hk => Nat.le_trans (Nat.le_trans hF.size ho.ch.size) hk)) <|
      OblsR.cons (OblR.plain rfl rfl rfl rfl fun A' R' w' ho hd => by have a0 : R' 3 = u6 := (ho.old 3 rfl).trans h3; exact of_fieldAddr_tr ((tr_root (hO.own 2 _ rfl).2).ptr).ad a0 ff_49_2 Try.sizeOf47 (by decide) rfl) <|
      OblsR.cons (OblR.tookM 2 [5] _ rfl rfl rfl rfl fun A' R' w' ho hd ρ σ hok hav hin hop hds hdd => by have a0 : R' 14 = (padd u6 2) := hd 0 _ _ _ rfl rfl rfl rfl rfl; have k1 := hok 2 (.head _) _ rfl; have e0 := (hin 2 (.head _) _ rfl).1; rw [e0] at k1 ⊢; exact took_put2 rfl ((((tr_root k1.2.2).ptr).snd rfl).snd (padd_padd _ _ _)) (hok 5 (.tail _ (.head _)) _ rfl).2.2.1 (hop 5 (.tail _ (.head _)) _ _ rfl rfl rfl rfl).symm a0 hav hdd k1.2.1 (hok 5 (.tail _ (.head _)) _ rfl).2.1 Try.sizeOf47 (fun _ _ _ h => h)) <|
      OblsR.nil
  intro done ρ σ A R w hdn hI
  replace h2 : R 2 = u2 := (hI.reg rfl).trans h2
  replace h3 : R 3 = u6 := (hI.reg rfl).trans h3
  have z22 := hI.inivR 0 rfl
  have z23 := hI.inivR 1 rfl
  have z24 := hI.inivR 2 rfl
  have z25 := (hI.opnR hdn 7 4 rfl rfl rfl rfl rfl).trans z24
  have eS_u2 := hI.inisR 1 rfl
  obtain ⟨S26, eS_u6⟩ : ∃ S, σ 7 = S := ⟨_, rfl⟩
  replace hAA := hI.low' hAA hA0 (hO.ge (⟨rfl, ⟨fun _ h => h, ⟨fun _ h => h, trivial⟩⟩⟩))
  replace hF : Fr w0 w := hF.tr hI.ch (hO.ge (⟨rfl, ⟨fun _ h => h, ⟨fun _ h => h, trivial⟩⟩⟩))
  replace hO : IniOK [⟨u2, S3, trR (geB w0.heap.size) (oPt 49 (oPr (oRd (eInt .i64)) (oPr (oSl 76 (oRd E_impl_TokenCount)) (oSl 91 (oPr (oRd (eInt .i64)) (oSl 9 (oRd eStr))))))) ((0 : Int), (([] : List T_impl_TokenCount), ([] : List T_impl_IndexedSet))) []⟩, ⟨u6, S26, trR (geB w0.heap.size) (oPt 49 (oPr (oRd (eInt .i64)) (oPr (oSl 76 (oRd E_impl_TokenCount)) (oSl 91 (oPr (oRd (eInt .i64)) (oSl 9 (oRd eStr))))))) (p0.1, x13, x20) []⟩] A w := hI.left hdn [(1, ⟨u2, S3, trR (geB w0.heap.size) (oPt 49 (oPr (oRd (eInt .i64)) (oPr (oSl 76 (oRd E_impl_TokenCount)) (oSl 91 (oPr (oRd (eInt .i64)) (oSl 9 (oRd eStr))))))) ((0 : Int), (([] : List T_impl_TokenCount), ([] : List T_impl_IndexedSet))) []⟩), (7, ⟨u6, S26, trR (geB w0.heap.size) (oPt 49 (oPr (oRd (eInt .i64)) (oPr (oSl 76 (oRd E_impl_TokenCount)) (oSl 91 (oPr (oRd (eInt .i64)) (oSl 9 (oRd eStr))))))) (p0.1, x13, x20) []⟩)] ⟨rfl, rfl, z23, eS_u2, rfl, ⟨rfl, rfl, z25, eS_u6, rfl, trivial⟩⟩
  replace hA := hI.avok
  clear hI
  refine HT.seq ?_
  refine HT.textR [⟨u2, S3, trR (geB w0.heap.size) (oPt 49 (oPr (oRd (eInt .i64)) (oPr (oSl 76 (oRd E_impl_TokenCount)) (oSl 91 (oPr (oRd (eInt .i64)) (oSl 9 (oRd eStr))))))) ((0 : Int), (([] : List T_impl_TokenCount), ([] : List T_impl_IndexedSet))) []⟩, ⟨u6, S26, trR (geB w0.heap.size) (oPt 49 (oPr (oRd (eInt .i64)) (oPr (oSl 76 (oRd E_impl_TokenCount)) (oSl 91 (oPr (oRd (eInt .i64)) (oSl 9 (oRd eStr))))))) (p0.1, x13, x20) []⟩] (⟨_, true, [1], some (trR (geB w0.heap.size) (oPr (oRd (eInt .i64)) (oPr (oSl 76 (oRd E_impl_TokenCount)) (oSl 91 (oPr (oRd (eInt .i64)) (oSl 9 (oRd eStr)))))) (p0.1, x13, x20) []), true, fun A => .any⟩ :: ⟨_, true, [0, 2], some (trR (geB w0.heap.size) (oPt 49 (oPr (oRd (eInt .i64)) (oPr (oSl 76 (oRd E_impl_TokenCount)) (oSl 91 (oPr (oRd (eInt .i64)) (oSl 9 (oRd eStr))))))) (p0.1, x13, x20) []), false, fun A => .any⟩ :: []) (by kernel_rfl) (by kernel_rfl) (Wf.mk' (by kernel_rfl) (UAll.cons ust_any (UAll.cons ust_any (UAll.nil))) (by kernel_rfl) (by kernel_rfl)) hO hA ?_ ?_
  · exact
      OblsR.cons (OblR.tookS 1 _ _ rfl rfl rfl rfl rfl fun A' R' w' ho hd u S hok hown hav hin hop hds => by have a0 : R' 3 = u6 := (ho.old 3 rfl).trans h3; exact took_loadT hown.2 (a0.trans (hin _ rfl).1.symm) hav hown.1 Try.isAgg49 Try.sizeOf49) <|
      OblsR.cons (OblR.tookM 0 [2] _ rfl rfl rfl rfl fun A' R' w' ho hd ρ σ hok hav hin hop hds hdd => by have a0 : R' 2 = u2 := (ho.old 2 rfl).trans h2; have k1 := hok 0 (.head _) _ rfl; have e0 := (hin 0 (.head _) _ rfl).1; rw [e0] at k1 ⊢; exact took_put2 rfl (tr_root k1.2.2).ptr (hok 2 (.tail _ (.head _)) _ rfl).2.2.1 (hop 2 (.tail _ (.head _)) _ _ rfl rfl rfl rfl).symm a0 hav hdd k1.2.1 (hok 2 (.tail _ (.head _)) _ rfl).2.1 Try.sizeOf49 (fun _ _ _ h => h)) <|
      OblsR.nil
  intro done ρ σ A R w hdn hI
  replace h2 : R 2 = u2 := (hI.reg rfl).trans h2
  have z27 := hI.inivR 0 rfl
  have z28 := (hI.opnR hdn 3 1 rfl rfl rfl rfl rfl).trans z27
  obtain ⟨S29, eS_u2⟩ : ∃ S, σ 3 = S := ⟨_, rfl⟩
  replace hAA := hI.low' hAA hA0 (hO.ge (⟨fun _ h => h, ⟨fun _ h => h, trivial⟩⟩))
  replace hF : Fr w0 w := hF.tr hI.ch (hO.ge (⟨fun _ h => h, ⟨fun _ h => h, trivial⟩⟩))
  replace hO : IniOK [⟨u2, S29, trR (geB w0.heap.size) (oPt 49 (oPr (oRd (eInt .i64)) (oPr (oSl 76 (oRd E_impl_TokenCount)) (oSl 91 (oPr (oRd (eInt .i64)) (oSl 9 (oRd eStr))))))) (p0.1, x13, x20) []⟩] A w := hI.left hdn [(3, ⟨u2, S29, trR (geB w0.heap.size) (oPt 49 (oPr (oRd (eInt .i64)) (oPr (oSl 76 (oRd E_impl_TokenCount)) (oSl 91 (oPr (oRd (eInt .i64)) (oSl 9 (oRd eStr))))))) (p0.1, x13, x20) []⟩)] ⟨rfl, rfl, z28, eS_u2, rfl, trivial⟩
  replace hA := hI.avok
  clear hI
  refine HT.ret ?_
  obtain rfl := Option.some.inj hr
  obtain ⟨v_, e_, p_⟩ := tree_post_cell (T := 49) (f := fun _ => .any) rfl (hO.own 0 _ rfl) (hO.ok 0 _ rfl).2 hAA hF h2 Try.isAgg49 Try.sizeOf49 (fun _ _ => trivial)
  exact ⟨.inr rfl, [v_], ⟨e_, trivial⟩, p_⟩
theorem M_laws_toSetIndex_okR {fu : Nat} {A0 : Av} {p0 : T_laws_SetIndex} {r : T_impl_SetIndex} (hr : M_laws_toSetIndex fu p0 = some r) {w : World} {v0 : Value} (hA : AvOK A0 w) (h0 : Rep E_laws_SetIndex A0 w v0 p0) :
    Calls Try.prog 35 #[v0] w fun e w' => ∃ v, e = .returned v ∧ (Rep E_impl_SetIndex A0 w' v r ∧ Fr w w') := by
  refine Calls.mono (M_laws_toSetIndex_ok hr hA h0) ?_
  rintro e w' ⟨v, he, h⟩
  exact ⟨v, he, madeS_rep h hA⟩
def M_spec_l1In (fu : Nat) (p0 : Int) (p1 : Int) (p2 : Int) : Option Bool :=
  bd ((decide (p1 ≤ p0)) && (decide (p0 ≤ p2))) fun x1 =>
  some x1
set_option maxRecDepth 100000 in
set_option maxHeartbeats 4000000 in
theorem M_spec_l1In_ok {fu : Nat} {A : Av} {p0 : Int} {p1 : Int} {p2 : Int} {r : Bool} (hr : M_spec_l1In fu p0 p1 p2 = some r) {w : World} {v0 : Value} {v1 : Value} {v2 : Value} (hA : AvOK A w) (h0 : v0 = .int .i64 p0) (h1 : v1 = .int .i64 p1) (h2 : v2 = .int .i64 p2) :
    Calls Try.prog 79 #[v0, v1, v2] w fun e w' => ∃ v, e = .returned v ∧ (v = .bool r ∧ Fr w w') := by
  unfold M_spec_l1In at hr
  obtain ⟨w0, hw0⟩ : ∃ w0, w0 = w := ⟨_, rfl⟩
  have hF : Fr w0 w := hw0 ▸ Fr.refl _
  rw [show Fr w = Fr w0 from hw0 ▸ rfl]
  clear hw0
  refine calls_of_HT2 [.tmp 6] Try.func79 Try.ntmps79 (by decide) rfl rfl (Nat.le_of_ble_eq_true rfl) ?_
  intro R hR
  replace h0 : R 0 = .int .i64 p0 := (hR 0 _ rfl).trans h0
  replace h1 : R 1 = .int .i64 p1 := (hR 1 _ rfl).trans h1
  replace h2 : R 2 = .int .i64 p2 := (hR 2 _ rfl).trans h2
  clear hR
  refine HT.seq ?_
  refine HT.text (l := ⟨_, true, .raw (.bool false)⟩ :: []) (tl := []) (by kernel_rfl) (by kernel_rfl) (by kernel_rfl) ?_ ?_
  · exact
      Obls.cons (Obl.plain rfl rfl fun R' w' hw hs hd => by exact of_assign rfl) <|
      Obls.nil
  intro R w hw hs hF'
  replace h0 : R 0 = .int .i64 p0 := (hs 0 rfl).trans h0
  replace h1 : R 1 = .int .i64 p1 := (hs 1 rfl).trans h1
  replace h2 : R 2 = .int .i64 p2 := (hs 2 rfl).trans h2
  replace hA := hA.fr hw.size
  replace hF := hF.trans hw
  clear hs hF' hw
  refine seqR_nil ?_
  refine HT.seq ?_
  obtain ⟨x1, q2, hr⟩ := bd_some hr
  refine HT.text (l := ⟨_, true, .raw (.int .i64 p0)⟩ :: ⟨_, true, .raw (.int .i64 p1)⟩ :: ⟨_, true, .raw (.bool (decide (p1 ≤ p0)))⟩ :: ⟨_, true, .raw (.bool (decide (p1 ≤ p0)))⟩ :: ⟨_, (true && ((decide (p1 ≤ p0)) == true)), .raw (.int .i64 p0)⟩ :: ⟨_, (true && ((decide (p1 ≤ p0)) == true)), .raw (.int .i64 p2)⟩ :: ⟨_, (true && ((decide (p1 ≤ p0)) == true)), .raw (.bool (decide (p0 ≤ p2)))⟩ :: ⟨_, true, .raw (.bool x1)⟩ :: ⟨_, true, .raw (.bool x1)⟩ :: []) (tl := []) (by kernel_rfl) (by kernel_rfl) (by kernel_rfl) ?_ ?_
  · exact
      Obls.cons (Obl.plain rfl rfl fun R' w' hw hs hd => by have a0 : R' 0 = .int .i64 p0 := (hs 0 rfl).trans h0; exact of_move a0) <|
      Obls.cons (Obl.plain rfl rfl fun R' w' hw hs hd => by have a0 : R' 1 = .int .i64 p1 := (hs 1 rfl).trans h1; exact of_move a0) <|
      Obls.cons (Obl.plain rfl rfl fun R' w' hw hs hd => by have a0 : R' 7 = .int .i64 p0 := hd 0 _ _ _ rfl rfl rfl rfl rfl; have a1 : R' 8 = .int .i64 p1 := hd 1 _ _ _ rfl rfl rfl rfl rfl; exact of_geq a0 a1) <|
      Obls.cons (Obl.plain rfl rfl fun R' w' hw hs hd => by have a0 : R' 9 = .bool (decide (p1 ≤ p0)) := hd 0 _ _ _ rfl rfl rfl rfl rfl; exact of_move a0) <|
      Obls.cons (Obl.grd 3 true _ _ _ rfl rfl rfl rfl rfl (by kernel_rfl) fun hg R' w' hw hs hd => by have a0 : R' 0 = .int .i64 p0 := (hs 0 rfl).trans h0; exact of_move a0) <|
      Obls.cons (Obl.grd 3 true _ _ _ rfl rfl rfl rfl rfl (by kernel_rfl) fun hg R' w' hw hs hd => by have a0 : R' 2 = .int .i64 p2 := (hs 2 rfl).trans h2; exact of_move a0) <|
      Obls.cons (Obl.grd 3 true _ _ _ rfl rfl rfl rfl rfl (by kernel_rfl) fun hg R' w' hw hs hd => by have a0 : R' 11 = .int .i64 p0 := hd 0 _ _ _ rfl rfl rfl rfl hg; have a1 : R' 12 = .int .i64 p2 := hd 1 _ _ _ rfl rfl rfl rfl hg; exact of_leq a0 a1) <|
      Obls.cons (Obl.plain rfl rfl fun R' w' hw hs hd => by have a0 : R' 10 = .bool (decide (p1 ≤ p0)) := hd 0 _ _ _ rfl rfl rfl rfl rfl; exact of_pick (decide (p1 ≤ p0)) a0 (fun hc => by have a1 : R' 13 = .bool (decide (p0 ≤ p2)) := hd 1 _ _ _ rfl rfl rfl rfl (g_and rfl (beq_of hc)); show _ = Value.bool x1; rw [q2, hc]; exact a1) (fun hc => by show _ = Value.bool x1; rw [q2, hc]; exact rfl)) <|
      Obls.cons (Obl.plain rfl rfl fun R' w' hw hs hd => by have a0 : R' 14 = .bool x1 := hd 0 _ _ _ rfl rfl rfl rfl rfl; exact of_assign a0) <|
      Obls.nil
  intro R w hw hs hF'
  have h6 : R 6 = .bool x1 := hF' 8 _ _ rfl rfl rfl
  replace hA := hA.fr hw.size
  replace hF := hF.trans hw
  clear hs hF' hw
  refine seqR_nil ?_
  refine HT.ret ?_
  obtain rfl := Option.some.inj hr
  exact ⟨.inr rfl, [R 6], ⟨rfl, trivial⟩, h6, hF⟩
def M_spec_l2Word (fu : Nat) (p0 : Int) : Option Bool :=
  bd ((decide ((97 : Int) ≤ p0)) && (decide (p0 ≤ (122 : Int)))) fun x1 =>
  bd ((decide ((65 : Int) ≤ p0)) && (decide (p0 ≤ (90 : Int)))) fun x3 =>
  bd (x1 || x3) fun x5 =>
  bd ((decide ((48 : Int) ≤ p0)) && (decide (p0 ≤ (57 : Int)))) fun x7 =>
  bd (x5 || x7) fun x9 =>
  some x9
set_option maxRecDepth 100000 in
set_option maxHeartbeats 4000000 in
theorem M_spec_l2Word_ok {fu : Nat} {A : Av} {p0 : Int} {r : Bool} (hr : M_spec_l2Word fu p0 = some r) {w : World} {v0 : Value} (hA : AvOK A w) (h0 : v0 = .int .u8 p0) :
    Calls Try.prog 108 #[v0] w fun e w' => ∃ v, e = .returned v ∧ (v = .bool r ∧ Fr w w') := by
  unfold M_spec_l2Word at hr
  obtain ⟨w0, hw0⟩ : ∃ w0, w0 = w := ⟨_, rfl⟩
  have hF : Fr w0 w := hw0 ▸ Fr.refl _
  rw [show Fr w = Fr w0 from hw0 ▸ rfl]
  clear hw0
  refine calls_of_HT2 [.tmp 2] Try.func108 Try.ntmps108 (by decide) rfl rfl (Nat.le_of_ble_eq_true rfl) ?_
  intro R hR
  replace h0 : R 0 = .int .u8 p0 := (hR 0 _ rfl).trans h0
  clear hR
  refine HT.seq ?_
  refine HT.text (l := ⟨_, true, .raw (.bool false)⟩ :: []) (tl := []) (by kernel_rfl) (by kernel_rfl) (by kernel_rfl) ?_ ?_
  · exact
      Obls.cons (Obl.plain rfl rfl fun R' w' hw hs hd => by exact of_assign rfl) <|
      Obls.nil
  intro R w hw hs hF'
  replace h0 : R 0 = .int .u8 p0 := (hs 0 rfl).trans h0
  replace hA := hA.fr hw.size
  replace hF := hF.trans hw
  clear hs hF' hw
  refine seqR_nil ?_
  refine HT.seq ?_
  obtain ⟨x1, q2, hr⟩ := bd_some hr
  obtain ⟨x3, q4, hr⟩ := bd_some hr
  obtain ⟨x5, q6, hr⟩ := bd_some hr
  obtain ⟨x7, q8, hr⟩ := bd_some hr
  obtain ⟨x9, q10, hr⟩ := bd_some hr
  refine HT.text (l := ⟨_, true, .raw (.int .u8 p0)⟩ :: ⟨_, true, .raw (.bool (decide ((97 : Int) ≤ p0)))⟩ :: ⟨_, true, .raw (.bool (decide ((97 : Int) ≤ p0)))⟩ :: ⟨_, (true && ((decide ((97 : Int) ≤ p0)) == true)), .raw (.int .u8 p0)⟩ :: ⟨_, (true && ((decide ((97 : Int) ≤ p0)) == true)), .raw (.bool (decide (p0 ≤ (122 : Int))))⟩ :: ⟨_, true, .raw (.bool x1)⟩ :: ⟨_, true, .raw (.bool x1)⟩ :: ⟨_, (true && (x1 == false)), .raw (.int .u8 p0)⟩ :: ⟨_, (true && (x1 == false)), .raw (.bool (decide ((65 : Int) ≤ p0)))⟩ :: ⟨_, (true && (x1 == false)), .raw (.bool (decide ((65 : Int) ≤ p0)))⟩ :: ⟨_, ((true && (x1 == false)) && ((decide ((65 : Int) ≤ p0)) == true)), .raw (.int .u8 p0)⟩ :: ⟨_, ((true && (x1 == false)) && ((decide ((65 : Int) ≤ p0)) == true)), .raw (.bool (decide (p0 ≤ (90 : Int))))⟩ :: ⟨_, (true && (x1 == false)), .raw (.bool x3)⟩ :: ⟨_, true, .raw (.bool x5)⟩ :: ⟨_, true, .raw (.bool x5)⟩ :: ⟨_, (true && (x5 == false)), .raw (.int .u8 p0)⟩ :: ⟨_, (true && (x5 == false)), .raw (.bool (decide ((48 : Int) ≤ p0)))⟩ :: ⟨_, (true && (x5 == false)), .raw (.bool (decide ((48 : Int) ≤ p0)))⟩ :: ⟨_, ((true && (x5 == false)) && ((decide ((48 : Int) ≤ p0)) == true)), .raw (.int .u8 p0)⟩ :: ⟨_, ((true && (x5 == false)) && ((decide ((48 : Int) ≤ p0)) == true)), .raw (.bool (decide (p0 ≤ (57 : Int))))⟩ :: ⟨_, (true && (x5 == false)), .raw (.bool x7)⟩ :: ⟨_, true, .raw (.bool x9)⟩ :: ⟨_, true, .raw (.bool x9)⟩ :: []) (tl := []) (by kernel_rfl) (by kernel_rfl) (by kernel_rfl) ?_ ?_
  · exact
      Obls.cons (Obl.plain rfl rfl fun R' w' hw hs hd => by have a0 : R' 0 = .int .u8 p0 := (hs 0 rfl).trans h0; exact of_move a0) <|
      Obls.cons (Obl.plain rfl rfl fun R' w' hw hs hd => by have a0 : R' 3 = .int .u8 p0 := hd 0 _ _ _ rfl rfl rfl rfl rfl; exact of_geq a0 rfl) <|
      Obls.cons (Obl.plain rfl rfl fun R' w' hw hs hd => by have a0 : R' 4 = .bool (decide ((97 : Int) ≤ p0)) := hd 0 _ _ _ rfl rfl rfl rfl rfl; exact of_move a0) <|
      Obls.cons (Obl.grd 2 true _ _ _ rfl rfl rfl rfl rfl (by kernel_rfl) fun hg R' w' hw hs hd => by have a0 : R' 0 = .int .u8 p0 := (hs 0 rfl).trans h0; exact of_move a0) <|
      Obls.cons (Obl.grd 2 true _ _ _ rfl rfl rfl rfl rfl (by kernel_rfl) fun hg R' w' hw hs hd => by have a0 : R' 6 = .int .u8 p0 := hd 0 _ _ _ rfl rfl rfl rfl hg; exact of_leq a0 rfl) <|
      Obls.cons (Obl.plain rfl rfl fun R' w' hw hs hd => by have a0 : R' 5 = .bool (decide ((97 : Int) ≤ p0)) := hd 0 _ _ _ rfl rfl rfl rfl rfl; exact of_pick (decide ((97 : Int) ≤ p0)) a0 (fun hc => by have a1 : R' 7 = .bool (decide (p0 ≤ (122 : Int))) := hd 1 _ _ _ rfl rfl rfl rfl (g_and rfl (beq_of hc)); show _ = Value.bool x1; rw [q2, hc]; exact a1) (fun hc => by show _ = Value.bool x1; rw [q2, hc]; exact rfl)) <|
      Obls.cons (Obl.plain rfl rfl fun R' w' hw hs hd => by have a0 : R' 8 = .bool x1 := hd 0 _ _ _ rfl rfl rfl rfl rfl; exact of_move a0) <|
      Obls.cons (Obl.grd 6 false _ _ _ rfl rfl rfl rfl rfl (by kernel_rfl) fun hg R' w' hw hs hd => by have a0 : R' 0 = .int .u8 p0 := (hs 0 rfl).trans h0; exact of_move a0) <|
      Obls.cons (Obl.grd 6 false _ _ _ rfl rfl rfl rfl rfl (by kernel_rfl) fun hg R' w' hw hs hd => by have a0 : R' 10 = .int .u8 p0 := hd 0 _ _ _ rfl rfl rfl rfl hg; exact of_geq a0 rfl) <|
      Obls.cons (Obl.grd 6 false _ _ _ rfl rfl rfl rfl rfl (by kernel_rfl) fun hg R' w' hw hs hd => by have a0 : R' 11 = .bool (decide ((65 : Int) ≤ p0)) := hd 0 _ _ _ rfl rfl rfl rfl hg; exact of_move a0) <|
      Obls.cons (Obl.grd 9 true _ _ _ rfl rfl rfl rfl rfl (by kernel_rfl) fun hg R' w' hw hs hd => by have a0 : R' 0 = .int .u8 p0 := (hs 0 rfl).trans h0; exact of_move a0) <|
      Obls.cons (Obl.grd 9 true _ _ _ rfl rfl rfl rfl rfl (by kernel_rfl) fun hg R' w' hw hs hd => by have a0 : R' 13 = .int .u8 p0 := hd 0 _ _ _ rfl rfl rfl rfl hg; exact of_leq a0 rfl) <|
      Obls.cons (Obl.grd 6 false _ _ _ rfl rfl rfl rfl rfl (by kernel_rfl) fun hg R' w' hw hs hd => by have a0 : R' 12 = .bool (decide ((65 : Int) ≤ p0)) := hd 0 _ _ _ rfl rfl rfl rfl hg; exact of_pick (decide ((65 : Int) ≤ p0)) a0 (fun hc => by have a1 : R' 14 = .bool (decide (p0 ≤ (90 : Int))) := hd 1 _ _ _ rfl rfl rfl rfl (g_and hg (beq_of hc)); show _ = Value.bool x3; rw [q4, hc]; exact a1) (fun hc => by show _ = Value.bool x3; rw [q4, hc]; exact rfl)) <|
      Obls.cons (Obl.plain rfl rfl fun R' w' hw hs hd => by have a0 : R' 9 = .bool x1 := hd 0 _ _ _ rfl rfl rfl rfl rfl; exact of_pick x1 a0 (fun hc => by show _ = Value.bool x5; rw [q6, hc]; exact rfl) (fun hc => by have a2 : R' 15 = .bool x3 := hd 1 _ _ _ rfl rfl rfl rfl (g_and rfl (beq_of hc)); show _ = Value.bool x5; rw [q6, hc]; exact a2)) <|
      Obls.cons (Obl.plain rfl rfl fun R' w' hw hs hd => by have a0 : R' 16 = .bool x5 := hd 0 _ _ _ rfl rfl rfl rfl rfl; exact of_move a0) <|
      Obls.cons (Obl.grd 14 false _ _ _ rfl rfl rfl rfl rfl (by kernel_rfl) fun hg R' w' hw hs hd => by have a0 : R' 0 = .int .u8 p0 := (hs 0 rfl).trans h0; exact of_move a0) <|
      Obls.cons (Obl.grd 14 false _ _ _ rfl rfl rfl rfl rfl (by kernel_rfl) fun hg R' w' hw hs hd => by have a0 : R' 18 = .int .u8 p0 := hd 0 _ _ _ rfl rfl rfl rfl hg; exact of_geq a0 rfl) <|
      Obls.cons (Obl.grd 14 false _ _ _ rfl rfl rfl rfl rfl (by kernel_rfl) fun hg R' w' hw hs hd => by have a0 : R' 19 = .bool (decide ((48 : Int) ≤ p0)) := hd 0 _ _ _ rfl rfl rfl rfl hg; exact of_move a0) <|
      Obls.cons (Obl.grd 17 true _ _ _ rfl rfl rfl rfl rfl (by kernel_rfl) fun hg R' w' hw hs hd => by have a0 : R' 0 = .int .u8 p0 := (hs 0 rfl).trans h0; exact of_move a0) <|
      Obls.cons (Obl.grd 17 true _ _ _ rfl rfl rfl rfl rfl (by kernel_rfl) fun hg R' w' hw hs hd => by have a0 : R' 21 = .int .u8 p0 := hd 0 _ _ _ rfl rfl rfl rfl hg; exact of_leq a0 rfl) <|
      Obls.cons (Obl.grd 14 false _ _ _ rfl rfl rfl rfl rfl (by kernel_rfl) fun hg R' w' hw hs hd => by have a0 : R' 20 = .bool (decide ((48 : Int) ≤ p0)) := hd 0 _ _ _ rfl rfl rfl rfl hg; exact of_pick (decide ((48 : Int) ≤ p0)) a0 (fun hc => by have a1 : R' 22 = .bool (decide (p0 ≤ (57 : Int))) := hd 1 _ _ _ rfl rfl rfl rfl (g_and hg (beq_of hc)); show _ = Value.bool x7; rw [q8, hc]; exact a1) (fun hc => by show _ = Value.bool x7; rw [q8, hc]; exact rfl)) <|
      Obls.cons (Obl.plain rfl rfl fun R' w' hw hs hd => by have a0 : R' 17 = .bool x5 := hd 0 _ _ _ rfl rfl rfl rfl rfl; exact of_pick x5 a0 (fun hc => by show _ = Value.bool x9; rw [q10, hc]; exact rfl) (fun hc => by have a2 : R' 23 = .bool x7 := hd 1 _ _ _ rfl rfl rfl rfl (g_and rfl (beq_of hc)); show _ = Value.bool x9; rw [q10, hc]; exact a2)) <|
      Obls.cons (Obl.plain rfl rfl fun R' w' hw hs hd => by have a0 : R' 24 = .bool x9 := hd 0 _ _ _ rfl rfl rfl rfl rfl; exact of_assign a0) <|
      Obls.nil
  intro R w hw hs hF'
  have h2 : R 2 = .bool x9 := hF' 22 _ _ rfl rfl rfl
  replace hA := hA.fr hw.size
  replace hF := hF.trans hw
  clear hs hF' hw
  refine seqR_nil ?_
  refine HT.ret ?_
  obtain rfl := Option.some.inj hr
  exact ⟨.inr rfl, [R 2], ⟨rfl, trivial⟩, h2, hF⟩
end Go.Proofs.Ytfcocbokgfmjfaa
