/- Printed by dec.py: plain functions and the proofs that the code computes them. No statement of the seat is proved here. -/
import Derived.Test.YtfcocbokgfmjfaaSo
namespace Go.Proofs.Ytfcocbokgfmjfaa
open Go.RowKit
set_option linter.unusedVariables false
def M_laws_szTokenCount (fu : Nat) (p0 : T_impl_TokenCount) (p1 : Int) : Option Int :=
  ck (i64B (p1 - (p0.1.length : Int))) <|
  bif (decide ((p1 - (p0.1.length : Int)) < (0 : Int))) then (
    some (-1 : Int)
  ) else (
    some (p1 - (p0.1.length : Int))
  )
set_option maxRecDepth 100000 in
set_option maxHeartbeats 4000000 in
theorem M_laws_szTokenCount_ok {fu : Nat} {A0 : Av} {p0 : T_impl_TokenCount} {p1 : Int} {r : Int} (hr : M_laws_szTokenCount fu p0 p1 = some r) {w : World} {v0 : Value} {v1 : Value} (hA : AvOK A0 w) (h0 : Rep E_impl_TokenCount A0 w v0 p0) (h1 : v1 = .int .i64 p1) :
    Calls Try.prog 58 #[v0, v1] w fun e w' => ∃ v, e = .returned v ∧ (v = .int .i64 r ∧ Fr w w') := by
  unfold M_laws_szTokenCount at hr
  obtain ⟨w0, hw0⟩ : ∃ w0, w0 = w := ⟨_, rfl⟩
  have hF : Fr w0 w := hw0 ▸ Fr.refl _
  have hA0 : ∀ b o, A0 b o → b < w0.heap.size := fun b o h => hw0 ▸ hA b o h
  have hA00 : AvOK A0 w0 := hA0
  rw [show Fr w = Fr w0 from hw0 ▸ rfl]
  clear hw0
  obtain ⟨A, hAe⟩ : ∃ A, A = A0 := ⟨_, rfl⟩
  have hAA : ∀ b o, A0 b o → A b o := fun b o h => hAe ▸ h
  replace hA : AvOK A w := hAe ▸ hA
  have hO : IniOK [] A w := IniOK.nil
  refine calls_of_HT2 [.tmp 4] Try.func58 Try.ntmps58 (by decide) rfl rfl (Nat.le_of_ble_eq_true rfl) ?_
  intro R hR
  have f_v0 : Rep E_impl_TokenCount A w v0 p0 := hAe ▸ h0
  replace h0 : R 0 = v0 := hR 0 _ rfl
  replace h1 : R 1 = .int .i64 p1 := (hR 1 _ rfl).trans h1
  clear hR hAe
  refine HT.seq ?_
  refine HT.textR [] (⟨_, true, [], some (.box w0.heap.size 74 E_impl_TokenCount p0), true, fun A => .any⟩ :: ⟨_, true, [], none, true, fun A => .raw (.int .i64 (0 : Int))⟩ :: []) (by kernel_rfl) (by kernel_rfl) (Wf.mk' (by kernel_rfl) (UAll.cons ust_any (UAll.cons ust_raw (UAll.nil))) (by kernel_rfl) (by kernel_rfl)) hO hA ?_ ?_
  · exact
      OblsR.cons (OblR.made _ rfl rfl rfl rfl fun A' R' w' ho hd => by have a0 : R' 0 = v0 := (ho.old 0 rfl).trans h0; have ra0 := (f_v0.stp ho.stp).eq a0; exact made_box ra0 (Nat.le_trans hF.size ho.ch.size)) <|
      OblsR.cons (OblR.plain rfl rfl rfl rfl fun A' R' w' ho hd => by exact of_assign rfl) <|
      OblsR.nil
  intro done ρ σ A R w hdn hI
  replace h1 : R 1 = .int .i64 p1 := (hI.reg rfl).trans h1
  obtain ⟨b2_0, e_b2_0⟩ := hI.boxv hdn 0 rfl rfl
  have h2 : R 2 = (.pointer (some ⟨b2_0, 0, none⟩)) := (hI.opvR hdn 0 0 rfl rfl rfl rfl rfl).symm.trans e_b2_0
  replace hAA := hI.low' hAA hA0 (hO.ge (trivial))
  replace hF : Fr w0 w := hF.tr hI.ch (hO.ge (trivial))
  replace hO : IniOK [ob (.pointer (some ⟨b2_0, 0, none⟩)) (.box w0.heap.size 74 E_impl_TokenCount p0)] A w := hI.left hdn [(0, ob (.pointer (some ⟨b2_0, 0, none⟩)) (.box w0.heap.size 74 E_impl_TokenCount p0))] ⟨rfl, rfl, e_b2_0, rfl, rfl, trivial⟩
  replace hA := hI.avok
  clear hI
  refine HT.seq ?_
  obtain ⟨e2, hr⟩ := ck_some hr
  refine HT.text (l := ⟨_, true, .raw (.int .i64 p1)⟩ :: ⟨_, true, .raw (.pointer (some ⟨b2_0, 0, none⟩))⟩ :: ⟨_, true, .rep eStr A p0.1⟩ :: ⟨_, true, .raw (.int .i64 (p0.1.length : Int))⟩ :: ⟨_, true, .raw (.int .i64 (p1 - (p0.1.length : Int)))⟩ :: ⟨_, true, .raw (.int .i64 (p1 - (p0.1.length : Int)))⟩ :: []) (tl := []) (by kernel_rfl) (by kernel_rfl) (by kernel_rfl) ?_ ?_
  · exact
      Obls.cons (Obl.plain rfl rfl fun R' w' hw hs hd => by have a0 : R' 1 = .int .i64 p1 := (hs 1 rfl).trans h1; exact of_move a0) <|
      Obls.cons (Obl.plain rfl rfl fun R' w' hw hs hd => by have a0 : R' 2 = (.pointer (some ⟨b2_0, 0, none⟩)) := (hs 2 rfl).trans h2; exact of_fieldAddr_raw a0 ff_74_0 Try.sizeOf9 (by decide) rfl) <|
      Obls.cons (Obl.plain rfl rfl fun R' w' hw hs hd => by have a0 : R' 6 = (.pointer (some ⟨b2_0, 0, none⟩)) := hd 0 _ _ _ rfl rfl rfl rfl rfl; exact (of_load_box ((hO.fr hw).ok 0 _ rfl).1 a0 fl_impl_TokenCount_0 rfl Try.isAgg9 Try.sizeOf9)) <|
      Obls.cons (Obl.plain rfl rfl fun R' w' hw hs hd => by have a0 : Rep eStr A w' (R' 7) p0.1 := hd 0 _ _ _ rfl rfl rfl rfl rfl; exact of_len_str a0 Try.underlying9) <|
      Obls.cons (Obl.plain rfl rfl fun R' w' hw hs hd => by have a0 : R' 5 = .int .i64 p1 := hd 0 _ _ _ rfl rfl rfl rfl rfl; have a1 : R' 8 = .int .i64 (p0.1.length : Int) := hd 1 _ _ _ rfl rfl rfl rfl rfl; exact of_sub a0 a1 e2) <|
      Obls.cons (Obl.plain rfl rfl fun R' w' hw hs hd => by have a0 : R' 9 = .int .i64 (p1 - (p0.1.length : Int)) := hd 0 _ _ _ rfl rfl rfl rfl rfl; exact of_assign a0) <|
      Obls.nil
  intro R w hw hs hF'
  have h1 : R 1 = .int .i64 (p1 - (p0.1.length : Int)) := hF' 5 _ _ rfl rfl rfl
  replace hO := hO.fr hw
  replace hO : IniOK [] A w := hO.sub [] trivial
  replace hA := hA.fr hw.size
  replace hF := hF.trans hw
  clear hs hF' hw
  refine seqR_nil ?_
  refine HT.seq ?_
  refine HT.seq ?_
  refine HT.text (l := ⟨_, true, .raw (.int .i64 (p1 - (p0.1.length : Int)))⟩ :: ⟨_, true, .raw (.bool (decide ((p1 - (p0.1.length : Int)) < (0 : Int))))⟩ :: []) (tl := []) (by kernel_rfl) (by kernel_rfl) (by kernel_rfl) ?_ ?_
  · exact
      Obls.cons (Obl.plain rfl rfl fun R' w' hw hs hd => by have a0 : R' 1 = .int .i64 (p1 - (p0.1.length : Int)) := (hs 1 rfl).trans h1; exact of_move a0) <|
      Obls.cons (Obl.plain rfl rfl fun R' w' hw hs hd => by have a0 : R' 10 = .int .i64 (p1 - (p0.1.length : Int)) := hd 0 _ _ _ rfl rfl rfl rfl rfl; exact of_lss a0 rfl) <|
      Obls.nil
  intro R w hw hs hF'
  replace h1 : R 1 = .int .i64 (p1 - (p0.1.length : Int)) := (hs 1 rfl).trans h1
  have h11 : R 11 = .bool (decide ((p1 - (p0.1.length : Int)) < (0 : Int))) := hF' 1 _ _ rfl rfl rfl
  replace hO := hO.fr hw
  replace hA := hA.fr hw.size
  replace hF := hF.trans hw
  clear hs hF' hw
  refine seqR_nil ?_
  refine HT.cond (decide ((p1 - (p0.1.length : Int)) < (0 : Int))) h11 (fun c3 => ?_) (fun c3 => ?_)
  · have hr := cnd_t c3 hr
    refine HT.seq ?_
    refine HT.text (l := ⟨_, true, .raw (.int .i64 (-1 : Int))⟩ :: []) (tl := []) (by kernel_rfl) (by kernel_rfl) (by kernel_rfl) ?_ ?_
    · exact
        Obls.cons (Obl.plain rfl rfl fun R' w' hw hs hd => by exact of_assign rfl) <|
        Obls.nil
    intro R w hw hs hF'
    have h4 : R 4 = .int .i64 (-1 : Int) := hF' 0 _ _ rfl rfl rfl
    replace hO := hO.fr hw
    replace hA := hA.fr hw.size
    replace hF := hF.trans hw
    clear hs hF' hw
    refine seqR_nil ?_
    refine HT.ret ?_
    obtain rfl := Option.some.inj hr
    exact ⟨.inr rfl, [R 4], ⟨rfl, trivial⟩, h4, hF⟩
  · have hr := cnd_f c3 hr
    refine HT.skip ?_
    refine HT.seq ?_
    refine HT.text (l := ⟨_, true, .raw (.int .i64 (p1 - (p0.1.length : Int)))⟩ :: ⟨_, true, .raw (.int .i64 (p1 - (p0.1.length : Int)))⟩ :: []) (tl := []) (by kernel_rfl) (by kernel_rfl) (by kernel_rfl) ?_ ?_
    · exact
        Obls.cons (Obl.plain rfl rfl fun R' w' hw hs hd => by have a0 : R' 1 = .int .i64 (p1 - (p0.1.length : Int)) := (hs 1 rfl).trans h1; exact of_move a0) <|
        Obls.cons (Obl.plain rfl rfl fun R' w' hw hs hd => by have a0 : R' 12 = .int .i64 (p1 - (p0.1.length : Int)) := hd 0 _ _ _ rfl rfl rfl rfl rfl; exact of_assign a0) <|
        Obls.nil
    intro R w hw hs hF'
    have h4 : R 4 = .int .i64 (p1 - (p0.1.length : Int)) := hF' 1 _ _ rfl rfl rfl
    replace hO := hO.fr hw
    replace hA := hA.fr hw.size
    replace hF := hF.trans hw
    clear hs hF' hw
    refine seqR_nil ?_
    refine HT.ret ?_
    obtain rfl := Option.some.inj hr
    exact ⟨.inr rfl, [R 4], ⟨rfl, trivial⟩, h4, hF⟩
def M_laws_szTokenCountS_L0 (fu : Nat) (p0 : List T_impl_TokenCount) : Nat → Int → Int → Option (Ex Int Int)
  | 0, _, _ => none
  | k + 1, y6, y7 =>
    bif (decide (y7 < (p0.length : Int))) then (
      ck (inR y7 p0.length) <|
      cl true (M_laws_szTokenCount fu (gtD p0 y7) y6) fun x10 =>
      bif (decide (x10 < (0 : Int))) then (
        some (Ex.ret (-1 : Int))
      ) else (
        ck (i64B (y7 + (1 : Int))) <|
        M_laws_szTokenCountS_L0 fu p0 k x10 (y7 + (1 : Int))
      )
    ) else (
      some (Ex.go y6)
    )
def M_laws_szTokenCountS (fu : Nat) (p0 : List T_impl_TokenCount) (p1 : Int) : Option Int :=
  ck (i64B (p1 - (p0.length : Int))) <|
  bif (decide ((p1 - (p0.length : Int)) < (0 : Int))) then (
    some (-1 : Int)
  ) else (
    cl true (M_laws_szTokenCountS_L0 fu p0 fu (p1 - (p0.length : Int)) (0 : Int)) fun rl3 =>
    exM rl3 (fun r => some r) fun s5 =>
    some s5
  )
set_option maxRecDepth 100000 in
set_option maxHeartbeats 4000000 in
theorem M_laws_szTokenCountS_ok {fu : Nat} {A : Av} {p0 : List T_impl_TokenCount} {p1 : Int} {r : Int} (hr : M_laws_szTokenCountS fu p0 p1 = some r) {w : World} {v0 : Value} {v1 : Value} (hA : AvOK A w) (h0 : Rep (eSl E_impl_TokenCount) A w v0 p0) (h1 : v1 = .int .i64 p1) :
    Calls Try.prog 13 #[v0, v1] w fun e w' => ∃ v, e = .returned v ∧ (v = .int .i64 r ∧ Fr w w') := by
  unfold M_laws_szTokenCountS at hr
  obtain ⟨w0, hw0⟩ : ∃ w0, w0 = w := ⟨_, rfl⟩
  have hF : Fr w0 w := hw0 ▸ Fr.refl _
  rw [show Fr w = Fr w0 from hw0 ▸ rfl]
  clear hw0
  refine calls_of_HT2 [.tmp 4] Try.func13 Try.ntmps13 (by decide) rfl rfl (Nat.le_of_ble_eq_true rfl) ?_
  intro R hR
  have f_v0 := h0
  replace h0 : R 0 = v0 := hR 0 _ rfl
  replace h1 : R 1 = .int .i64 p1 := (hR 1 _ rfl).trans h1
  clear hR
  refine HT.seq ?_
  refine HT.text (l := ⟨_, true, .raw (.int .i64 (0 : Int))⟩ :: []) (tl := []) (by kernel_rfl) (by kernel_rfl) (by kernel_rfl) ?_ ?_
  · exact
      Obls.cons (Obl.plain rfl rfl fun R' w' hw hs hd => by exact of_assign rfl) <|
      Obls.nil
  intro R w hw hs hF'
  replace h0 : R 0 = v0 := (hs 0 rfl).trans h0
  replace h1 : R 1 = .int .i64 p1 := (hs 1 rfl).trans h1
  replace f_v0 := f_v0.fr hw
  replace hA := hA.fr hw.size
  replace hF := hF.trans hw
  clear hs hF' hw
  refine seqR_nil ?_
  refine HT.seq ?_
  obtain ⟨e1, hr⟩ := ck_some hr
  refine HT.text (l := ⟨_, true, .raw (.int .i64 p1)⟩ :: ⟨_, true, .raw v0⟩ :: ⟨_, true, .raw (.int .i64 (p0.length : Int))⟩ :: ⟨_, true, .raw (.int .i64 (p1 - (p0.length : Int)))⟩ :: ⟨_, true, .raw (.int .i64 (p1 - (p0.length : Int)))⟩ :: []) (tl := []) (by kernel_rfl) (by kernel_rfl) (by kernel_rfl) ?_ ?_
  · exact
      Obls.cons (Obl.plain rfl rfl fun R' w' hw hs hd => by have a0 : R' 1 = .int .i64 p1 := (hs 1 rfl).trans h1; exact of_move a0) <|
      Obls.cons (Obl.plain rfl rfl fun R' w' hw hs hd => by have a0 : R' 0 = v0 := (hs 0 rfl).trans h0; exact of_move a0) <|
      Obls.cons (Obl.plain rfl rfl fun R' w' hw hs hd => by have a0 : R' 7 = v0 := hd 0 _ _ _ rfl rfl rfl rfl rfl; have ra0 := (f_v0.fr hw).eq a0; exact of_len_sl (aT := #[]) ra0 Try.underlying22) <|
      Obls.cons (Obl.plain rfl rfl fun R' w' hw hs hd => by have a0 : R' 6 = .int .i64 p1 := hd 0 _ _ _ rfl rfl rfl rfl rfl; have a1 : R' 8 = .int .i64 (p0.length : Int) := hd 1 _ _ _ rfl rfl rfl rfl rfl; exact of_sub a0 a1 e1) <|
      Obls.cons (Obl.plain rfl rfl fun R' w' hw hs hd => by have a0 : R' 9 = .int .i64 (p1 - (p0.length : Int)) := hd 0 _ _ _ rfl rfl rfl rfl rfl; exact of_assign a0) <|
      Obls.nil
  intro R w hw hs hF'
  replace h0 : R 0 = v0 := (hs 0 rfl).trans h0
  have h1 : R 1 = .int .i64 (p1 - (p0.length : Int)) := hF' 4 _ _ rfl rfl rfl
  replace f_v0 := f_v0.fr hw
  replace hA := hA.fr hw.size
  replace hF := hF.trans hw
  clear hs hF' hw
  refine seqR_nil ?_
  refine HT.seq ?_
  refine HT.seq ?_
  refine HT.text (l := ⟨_, true, .raw (.int .i64 (p1 - (p0.length : Int)))⟩ :: ⟨_, true, .raw (.bool (decide ((p1 - (p0.length : Int)) < (0 : Int))))⟩ :: []) (tl := []) (by kernel_rfl) (by kernel_rfl) (by kernel_rfl) ?_ ?_
  · exact
      Obls.cons (Obl.plain rfl rfl fun R' w' hw hs hd => by have a0 : R' 1 = .int .i64 (p1 - (p0.length : Int)) := (hs 1 rfl).trans h1; exact of_move a0) <|
      Obls.cons (Obl.plain rfl rfl fun R' w' hw hs hd => by have a0 : R' 10 = .int .i64 (p1 - (p0.length : Int)) := hd 0 _ _ _ rfl rfl rfl rfl rfl; exact of_lss a0 rfl) <|
      Obls.nil
  intro R w hw hs hF'
  replace h0 : R 0 = v0 := (hs 0 rfl).trans h0
  replace h1 : R 1 = .int .i64 (p1 - (p0.length : Int)) := (hs 1 rfl).trans h1
  have h11 : R 11 = .bool (decide ((p1 - (p0.length : Int)) < (0 : Int))) := hF' 1 _ _ rfl rfl rfl
  replace f_v0 := f_v0.fr hw
  replace hA := hA.fr hw.size
  replace hF := hF.trans hw
  clear hs hF' hw
  refine seqR_nil ?_
  refine HT.cond (decide ((p1 - (p0.length : Int)) < (0 : Int))) h11 (fun c2 => ?_) (fun c2 => ?_)
  · have hr := cnd_t c2 hr
    refine HT.seq ?_
    refine HT.text (l := ⟨_, true, .raw (.int .i64 (-1 : Int))⟩ :: []) (tl := []) (by kernel_rfl) (by kernel_rfl) (by kernel_rfl) ?_ ?_
    · exact
        Obls.cons (Obl.plain rfl rfl fun R' w' hw hs hd => by exact of_assign rfl) <|
        Obls.nil
    intro R w hw hs hF'
    have h4 : R 4 = .int .i64 (-1 : Int) := hF' 0 _ _ rfl rfl rfl
    replace hA := hA.fr hw.size
    replace hF := hF.trans hw
    clear hs hF' hw
    refine seqR_nil ?_
    refine HT.ret ?_
    obtain rfl := Option.some.inj hr
    exact ⟨.inr rfl, [R 4], ⟨rfl, trivial⟩, h4, hF⟩
  · have hr := cnd_f c2 hr
    refine HT.skip ?_
    refine HT.seq ?_
    refine HT.seq ?_
    refine HT.text (l := ⟨_, true, .raw (.int .i64 (0 : Int))⟩ :: []) (tl := []) (by kernel_rfl) (by kernel_rfl) (by kernel_rfl) ?_ ?_
    · exact
        Obls.cons (Obl.plain rfl rfl fun R' w' hw hs hd => by exact of_assign rfl) <|
        Obls.nil
    intro R w hw hs hF'
    replace h0 : R 0 = v0 := (hs 0 rfl).trans h0
    replace h1 : R 1 = .int .i64 (p1 - (p0.length : Int)) := (hs 1 rfl).trans h1
    have h5 : R 5 = .int .i64 (0 : Int) := hF' 0 _ _ rfl rfl rfl
    replace f_v0 := f_v0.fr hw
    replace hA := hA.fr hw.size
    replace hF := hF.trans hw
    clear hs hF' hw
    refine seqR_nil ?_
    obtain ⟨rl3, q4, hr⟩ := cl_some hr
    replace q4 := q4 rfl
    refine HT.cut0 (fun R w => ∃ (s5 : Int), rl3 = Ex.go s5 ∧ AvOK A w ∧ Fr w0 w ∧ R 1 = .int .i64 s5) ?_ ?_
    · refine HT.block ?_
      refine HT.loop (fun k R w => ∃ (y6 : Int) (y7 : Int), M_laws_szTokenCountS_L0 fu p0 k y6 y7 = some rl3 ∧ AvOK A w ∧ Fr w0 w ∧ R 0 = v0 ∧ R 1 = .int .i64 y6 ∧ R 5 = .int .i64 y7 ∧ Rep (eSl E_impl_TokenCount) A w v0 p0) fu ⟨_, _, q4, hA, hF, h0, h1, h5, f_v0⟩ ?_
      have hr0 := hr; clear hr q4
      rintro k R w ⟨y6, y7, hr, hA, hF, h0, h1, h5, f_v0⟩
      rcases k with _ | k
      · cases (show none = some _ from hr)
      rw [M_laws_szTokenCountS_L0] at hr
      refine HT.seq ?_
      refine HT.seq ?_
      refine HT.text (l := ⟨_, true, .raw (.int .i64 y7)⟩ :: ⟨_, true, .raw v0⟩ :: ⟨_, true, .raw (.int .i64 (p0.length : Int))⟩ :: ⟨_, true, .raw (.bool (decide (y7 < (p0.length : Int))))⟩ :: []) (tl := []) (by kernel_rfl) (by kernel_rfl) (by kernel_rfl) ?_ ?_
      · exact
          Obls.cons (Obl.plain rfl rfl fun R' w' hw hs hd => by have a0 : R' 5 = .int .i64 y7 := (hs 5 rfl).trans h5; exact of_move a0) <|
          Obls.cons (Obl.plain rfl rfl fun R' w' hw hs hd => by have a0 : R' 0 = v0 := (hs 0 rfl).trans h0; exact of_move a0) <|
          Obls.cons (Obl.plain rfl rfl fun R' w' hw hs hd => by have a0 : R' 13 = v0 := hd 0 _ _ _ rfl rfl rfl rfl rfl; have ra0 := (f_v0.fr hw).eq a0; exact of_len_sl (aT := #[]) ra0 Try.underlying22) <|
          Obls.cons (Obl.plain rfl rfl fun R' w' hw hs hd => by have a0 : R' 12 = .int .i64 y7 := hd 0 _ _ _ rfl rfl rfl rfl rfl; have a1 : R' 14 = .int .i64 (p0.length : Int) := hd 1 _ _ _ rfl rfl rfl rfl rfl; exact of_lss a0 a1) <|
          Obls.nil
      intro R w hw hs hF'
      replace h0 : R 0 = v0 := (hs 0 rfl).trans h0
      replace h1 : R 1 = .int .i64 y6 := (hs 1 rfl).trans h1
      replace h5 : R 5 = .int .i64 y7 := (hs 5 rfl).trans h5
      have h15 : R 15 = .bool (decide (y7 < (p0.length : Int))) := hF' 3 _ _ rfl rfl rfl
      replace f_v0 := f_v0.fr hw
      replace hA := hA.fr hw.size
      replace hF := hF.trans hw
      clear hs hF' hw
      refine seqR_nil ?_
      refine HT.cond (decide (y7 < (p0.length : Int))) h15 (fun c8 => ?_) (fun c8 => ?_)
      · have hr := cnd_t c8 hr
        refine HT.skip ?_
        refine HT.seq ?_
        refine HT.block ?_
        refine HT.seq ?_
        obtain ⟨e9, hr⟩ := ck_some hr
        obtain ⟨x10, q11, hr⟩ := cl_some hr
        refine HT.text (l := ⟨_, true, .raw v0⟩ :: ⟨_, true, .raw (.int .i64 y7)⟩ :: ⟨_, true, .qtr E_impl_TokenCount A (gtD p0 y7)⟩ :: ⟨_, true, .rep E_impl_TokenCount A (gtD p0 y7)⟩ :: ⟨_, true, .raw (.int .i64 y6)⟩ :: ⟨_, true, .raw (.int .i64 x10)⟩ :: ⟨_, true, .raw (.int .i64 x10)⟩ :: []) (tl := []) (by kernel_rfl) (by kernel_rfl) (by kernel_rfl) ?_ ?_
        · exact
            Obls.cons (Obl.plain rfl rfl fun R' w' hw hs hd => by have a0 : R' 0 = v0 := (hs 0 rfl).trans h0; exact of_move a0) <|
            Obls.cons (Obl.plain rfl rfl fun R' w' hw hs hd => by have a0 : R' 5 = .int .i64 y7 := (hs 5 rfl).trans h5; exact of_move a0) <|
            Obls.cons (Obl.plain rfl rfl fun R' w' hw hs hd => by have a0 : R' 18 = v0 := hd 0 _ _ _ rfl rfl rfl rfl rfl; have a1 : R' 19 = .int .i64 y7 := hd 1 _ _ _ rfl rfl rfl rfl rfl; have ra0 := (f_v0.fr hw).eq a0; exact of_indexAddr ra0 a1 Try.underlying22 Try.sizeOf74 e9) <|
            Obls.cons (Obl.plain rfl rfl fun R' w' hw hs hd => by have a0 : QRep E_impl_TokenCount A w' (R' 20) (gtD p0 y7) := hd 0 _ _ _ rfl rfl rfl rfl rfl; exact (of_load a0.ptr Try.isAgg74 Try.sizeOf74)) <|
            Obls.cons (Obl.plain rfl rfl fun R' w' hw hs hd => by have a0 : R' 1 = .int .i64 y6 := (hs 1 rfl).trans h1; exact of_move a0) <|
            Obls.cons (Obl.plain rfl rfl fun R' w' hw hs hd => by have a0 : Rep E_impl_TokenCount A w' (R' 21) (gtD p0 y7) := hd 0 _ _ _ rfl rfl rfl rfl rfl; have a1 : R' 22 = .int .i64 y6 := hd 1 _ _ _ rfl rfl rfl rfl rfl; exact of_call Try.call58 (M_laws_szTokenCount_ok (q11 rfl) (hA.fr hw.size) a0 a1)) <|
            Obls.cons (Obl.plain rfl rfl fun R' w' hw hs hd => by have a0 : R' 23 = .int .i64 x10 := hd 0 _ _ _ rfl rfl rfl rfl rfl; exact of_assign a0) <|
            Obls.nil
        intro R w hw hs hF'
        replace h0 : R 0 = v0 := (hs 0 rfl).trans h0
        replace h5 : R 5 = .int .i64 y7 := (hs 5 rfl).trans h5
        have h1 : R 1 = .int .i64 x10 := hF' 6 _ _ rfl rfl rfl
        replace f_v0 := f_v0.fr hw
        replace hA := hA.fr hw.size
        replace hF := hF.trans hw
        clear hs hF' hw
        refine seqR_nil ?_
        refine HT.seq ?_
        refine HT.text (l := ⟨_, true, .raw (.int .i64 x10)⟩ :: ⟨_, true, .raw (.bool (decide (x10 < (0 : Int))))⟩ :: []) (tl := []) (by kernel_rfl) (by kernel_rfl) (by kernel_rfl) ?_ ?_
        · exact
            Obls.cons (Obl.plain rfl rfl fun R' w' hw hs hd => by have a0 : R' 1 = .int .i64 x10 := (hs 1 rfl).trans h1; exact of_move a0) <|
            Obls.cons (Obl.plain rfl rfl fun R' w' hw hs hd => by have a0 : R' 24 = .int .i64 x10 := hd 0 _ _ _ rfl rfl rfl rfl rfl; exact of_lss a0 rfl) <|
            Obls.nil
        intro R w hw hs hF'
        replace h0 : R 0 = v0 := (hs 0 rfl).trans h0
        replace h1 : R 1 = .int .i64 x10 := (hs 1 rfl).trans h1
        replace h5 : R 5 = .int .i64 y7 := (hs 5 rfl).trans h5
        have h25 : R 25 = .bool (decide (x10 < (0 : Int))) := hF' 1 _ _ rfl rfl rfl
        replace f_v0 := f_v0.fr hw
        replace hA := hA.fr hw.size
        replace hF := hF.trans hw
        clear hs hF' hw
        refine seqR_nil ?_
        refine HT.cond (decide (x10 < (0 : Int))) h25 (fun c12 => ?_) (fun c12 => ?_)
        · have hr := cnd_t c12 hr
          refine HT.seq ?_
          refine HT.text (l := ⟨_, true, .raw (.int .i64 (-1 : Int))⟩ :: []) (tl := []) (by kernel_rfl) (by kernel_rfl) (by kernel_rfl) ?_ ?_
          · exact
              Obls.cons (Obl.plain rfl rfl fun R' w' hw hs hd => by exact of_assign rfl) <|
              Obls.nil
          intro R w hw hs hF'
          have h4 : R 4 = .int .i64 (-1 : Int) := hF' 0 _ _ rfl rfl rfl
          replace hA := hA.fr hw.size
          replace hF := hF.trans hw
          clear hs hF' hw
          refine seqR_nil ?_
          refine HT.ret ?_
          obtain rfl := Option.some.inj hr
          have hr := hr0
          replace hr : some _ = some _ := hr
          obtain rfl := Option.some.inj hr
          exact ⟨.inr rfl, [R 4], ⟨rfl, trivial⟩, h4, hF⟩
        · have hr := cnd_f c12 hr
          refine HT.skip ?_
          obtain ⟨e13, hr⟩ := ck_some hr
          refine HT.text (l := ⟨_, true, .raw (.int .i64 y7)⟩ :: ⟨_, true, .raw (.int .i64 (y7 + (1 : Int)))⟩ :: ⟨_, true, .raw (.int .i64 (y7 + (1 : Int)))⟩ :: []) (tl := []) (by kernel_rfl) (by kernel_rfl) (by kernel_rfl) ?_ ?_
          · exact
              Obls.cons (Obl.plain rfl rfl fun R' w' hw hs hd => by have a0 : R' 5 = .int .i64 y7 := (hs 5 rfl).trans h5; exact of_move a0) <|
              Obls.cons (Obl.plain rfl rfl fun R' w' hw hs hd => by have a0 : R' 16 = .int .i64 y7 := hd 0 _ _ _ rfl rfl rfl rfl rfl; exact of_add a0 rfl e13) <|
              Obls.cons (Obl.plain rfl rfl fun R' w' hw hs hd => by have a0 : R' 17 = .int .i64 (y7 + (1 : Int)) := hd 0 _ _ _ rfl rfl rfl rfl rfl; exact of_assign a0) <|
              Obls.nil
          intro R w hw hs hF'
          replace h0 : R 0 = v0 := (hs 0 rfl).trans h0
          replace h1 : R 1 = .int .i64 x10 := (hs 1 rfl).trans h1
          have h5 : R 5 = .int .i64 (y7 + (1 : Int)) := hF' 2 _ _ rfl rfl rfl
          replace f_v0 := f_v0.fr hw
          replace hA := hA.fr hw.size
          replace hF := hF.trans hw
          clear hs hF' hw
          refine seqR_nil ?_
          exact Exists.intro k (And.intro (Nat.lt_succ_self k) ⟨_, _, hr, hA, hF, h0, h1, h5, f_v0⟩)
      · have hr := cnd_f c8 hr
        refine HT.exit ?_
        obtain rfl := Option.some.inj hr
        exact Exists.intro _ ⟨rfl, hA, hF, h1⟩
    rintro R w ⟨s5, rfl, hA, hF, h1⟩
    have hr := exM_go hr
    refine HT.seq ?_
    refine HT.text (l := ⟨_, true, .raw (.int .i64 s5)⟩ :: ⟨_, true, .raw (.int .i64 s5)⟩ :: []) (tl := []) (by kernel_rfl) (by kernel_rfl) (by kernel_rfl) ?_ ?_
    · exact
        Obls.cons (Obl.plain rfl rfl fun R' w' hw hs hd => by have a0 : R' 1 = .int .i64 s5 := (hs 1 rfl).trans h1; exact of_move a0) <|
        Obls.cons (Obl.plain rfl rfl fun R' w' hw hs hd => by have a0 : R' 26 = .int .i64 s5 := hd 0 _ _ _ rfl rfl rfl rfl rfl; exact of_assign a0) <|
        Obls.nil
    intro R w hw hs hF'
    have h4 : R 4 = .int .i64 s5 := hF' 1 _ _ rfl rfl rfl
    replace hA := hA.fr hw.size
    replace hF := hF.trans hw
    clear hs hF' hw
    refine seqR_nil ?_
    refine HT.ret ?_
    obtain rfl := Option.some.inj hr
    exact ⟨.inr rfl, [R 4], ⟨rfl, trivial⟩, h4, hF⟩
def M_laws_szStringS_L0 (fu : Nat) (p0 : List (List UInt8)) : Nat → Int → Int → Option (Ex Int Int)
  | 0, _, _ => none
  | k + 1, y6, y7 =>
    bif (decide (y7 < (p0.length : Int))) then (
      ck (inR y7 p0.length) <|
      ck (i64B (y6 - ((gtD p0 y7).length : Int))) <|
      bif (decide ((y6 - ((gtD p0 y7).length : Int)) < (0 : Int))) then (
        some (Ex.ret (-1 : Int))
      ) else (
        ck (i64B (y7 + (1 : Int))) <|
        M_laws_szStringS_L0 fu p0 k (y6 - ((gtD p0 y7).length : Int)) (y7 + (1 : Int))
      )
    ) else (
      some (Ex.go y6)
    )
def M_laws_szStringS (fu : Nat) (p0 : List (List UInt8)) (p1 : Int) : Option Int :=
  ck (i64B (p1 - (p0.length : Int))) <|
  bif (decide ((p1 - (p0.length : Int)) < (0 : Int))) then (
    some (-1 : Int)
  ) else (
    cl true (M_laws_szStringS_L0 fu p0 fu (p1 - (p0.length : Int)) (0 : Int)) fun rl3 =>
    exM rl3 (fun r => some r) fun s5 =>
    some s5
  )
set_option maxRecDepth 100000 in
set_option maxHeartbeats 4000000 in
theorem M_laws_szStringS_ok {fu : Nat} {A : Av} {p0 : List (List UInt8)} {p1 : Int} {r : Int} (hr : M_laws_szStringS fu p0 p1 = some r) {w : World} {v0 : Value} {v1 : Value} (hA : AvOK A w) (h0 : Rep (eSl eStr) A w v0 p0) (h1 : v1 = .int .i64 p1) :
    Calls Try.prog 14 #[v0, v1] w fun e w' => ∃ v, e = .returned v ∧ (v = .int .i64 r ∧ Fr w w') := by
  unfold M_laws_szStringS at hr
  obtain ⟨w0, hw0⟩ : ∃ w0, w0 = w := ⟨_, rfl⟩
  have hF : Fr w0 w := hw0 ▸ Fr.refl _
  rw [show Fr w = Fr w0 from hw0 ▸ rfl]
  clear hw0
  refine calls_of_HT2 [.tmp 4] Try.func14 Try.ntmps14 (by decide) rfl rfl (Nat.le_of_ble_eq_true rfl) ?_
  intro R hR
  have f_v0 := h0
  replace h0 : R 0 = v0 := hR 0 _ rfl
  replace h1 : R 1 = .int .i64 p1 := (hR 1 _ rfl).trans h1
  clear hR
  refine HT.seq ?_
  refine HT.text (l := ⟨_, true, .raw (.int .i64 (0 : Int))⟩ :: []) (tl := []) (by kernel_rfl) (by kernel_rfl) (by kernel_rfl) ?_ ?_
  · exact
      Obls.cons (Obl.plain rfl rfl fun R' w' hw hs hd => by exact of_assign rfl) <|
      Obls.nil
  intro R w hw hs hF'
  replace h0 : R 0 = v0 := (hs 0 rfl).trans h0
  replace h1 : R 1 = .int .i64 p1 := (hs 1 rfl).trans h1
  replace f_v0 := f_v0.fr hw
  replace hA := hA.fr hw.size
  replace hF := hF.trans hw
  clear hs hF' hw
  refine seqR_nil ?_
  refine HT.seq ?_
  obtain ⟨e1, hr⟩ := ck_some hr
  refine HT.text (l := ⟨_, true, .raw (.int .i64 p1)⟩ :: ⟨_, true, .raw v0⟩ :: ⟨_, true, .raw (.int .i64 (p0.length : Int))⟩ :: ⟨_, true, .raw (.int .i64 (p1 - (p0.length : Int)))⟩ :: ⟨_, true, .raw (.int .i64 (p1 - (p0.length : Int)))⟩ :: []) (tl := []) (by kernel_rfl) (by kernel_rfl) (by kernel_rfl) ?_ ?_
  · exact
      Obls.cons (Obl.plain rfl rfl fun R' w' hw hs hd => by have a0 : R' 1 = .int .i64 p1 := (hs 1 rfl).trans h1; exact of_move a0) <|
      Obls.cons (Obl.plain rfl rfl fun R' w' hw hs hd => by have a0 : R' 0 = v0 := (hs 0 rfl).trans h0; exact of_move a0) <|
      Obls.cons (Obl.plain rfl rfl fun R' w' hw hs hd => by have a0 : R' 7 = v0 := hd 0 _ _ _ rfl rfl rfl rfl rfl; have ra0 := (f_v0.fr hw).eq a0; exact of_len_sl (aT := #[]) ra0 Try.underlying23) <|
      Obls.cons (Obl.plain rfl rfl fun R' w' hw hs hd => by have a0 : R' 6 = .int .i64 p1 := hd 0 _ _ _ rfl rfl rfl rfl rfl; have a1 : R' 8 = .int .i64 (p0.length : Int) := hd 1 _ _ _ rfl rfl rfl rfl rfl; exact of_sub a0 a1 e1) <|
      Obls.cons (Obl.plain rfl rfl fun R' w' hw hs hd => by have a0 : R' 9 = .int .i64 (p1 - (p0.length : Int)) := hd 0 _ _ _ rfl rfl rfl rfl rfl; exact of_assign a0) <|
      Obls.nil
  intro R w hw hs hF'
  replace h0 : R 0 = v0 := (hs 0 rfl).trans h0
  have h1 : R 1 = .int .i64 (p1 - (p0.length : Int)) := hF' 4 _ _ rfl rfl rfl
  replace f_v0 := f_v0.fr hw
  replace hA := hA.fr hw.size
  replace hF := hF.trans hw
  clear hs hF' hw
  refine seqR_nil ?_
  refine HT.seq ?_
  refine HT.seq ?_
  refine HT.text (l := ⟨_, true, .raw (.int .i64 (p1 - (p0.length : Int)))⟩ :: ⟨_, true, .raw (.bool (decide ((p1 - (p0.length : Int)) < (0 : Int))))⟩ :: []) (tl := []) (by kernel_rfl) (by kernel_rfl) (by kernel_rfl) ?_ ?_
  · exact
      Obls.cons (Obl.plain rfl rfl fun R' w' hw hs hd => by have a0 : R' 1 = .int .i64 (p1 - (p0.length : Int)) := (hs 1 rfl).trans h1; exact of_move a0) <|
      Obls.cons (Obl.plain rfl rfl fun R' w' hw hs hd => by have a0 : R' 10 = .int .i64 (p1 - (p0.length : Int)) := hd 0 _ _ _ rfl rfl rfl rfl rfl; exact of_lss a0 rfl) <|
      Obls.nil
  intro R w hw hs hF'
  replace h0 : R 0 = v0 := (hs 0 rfl).trans h0
  replace h1 : R 1 = .int .i64 (p1 - (p0.length : Int)) := (hs 1 rfl).trans h1
  have h11 : R 11 = .bool (decide ((p1 - (p0.length : Int)) < (0 : Int))) := hF' 1 _ _ rfl rfl rfl
  replace f_v0 := f_v0.fr hw
  replace hA := hA.fr hw.size
  replace hF := hF.trans hw
  clear hs hF' hw
  refine seqR_nil ?_
  refine HT.cond (decide ((p1 - (p0.length : Int)) < (0 : Int))) h11 (fun c2 => ?_) (fun c2 => ?_)
  · have hr := cnd_t c2 hr
    refine HT.seq ?_
    refine HT.text (l := ⟨_, true, .raw (.int .i64 (-1 : Int))⟩ :: []) (tl := []) (by kernel_rfl) (by kernel_rfl) (by kernel_rfl) ?_ ?_
    · exact
        Obls.cons (Obl.plain rfl rfl fun R' w' hw hs hd => by exact of_assign rfl) <|
        Obls.nil
    intro R w hw hs hF'
    have h4 : R 4 = .int .i64 (-1 : Int) := hF' 0 _ _ rfl rfl rfl
    replace hA := hA.fr hw.size
    replace hF := hF.trans hw
    clear hs hF' hw
    refine seqR_nil ?_
    refine HT.ret ?_
    obtain rfl := Option.some.inj hr
    exact ⟨.inr rfl, [R 4], ⟨rfl, trivial⟩, h4, hF⟩
  · have hr := cnd_f c2 hr
    refine HT.skip ?_
    refine HT.seq ?_
    refine HT.seq ?_
    refine HT.text (l := ⟨_, true, .raw (.int .i64 (0 : Int))⟩ :: []) (tl := []) (by kernel_rfl) (by kernel_rfl) (by kernel_rfl) ?_ ?_
    · exact
        Obls.cons (Obl.plain rfl rfl fun R' w' hw hs hd => by exact of_assign rfl) <|
        Obls.nil
    intro R w hw hs hF'
    replace h0 : R 0 = v0 := (hs 0 rfl).trans h0
    replace h1 : R 1 = .int .i64 (p1 - (p0.length : Int)) := (hs 1 rfl).trans h1
    have h5 : R 5 = .int .i64 (0 : Int) := hF' 0 _ _ rfl rfl rfl
    replace f_v0 := f_v0.fr hw
    replace hA := hA.fr hw.size
    replace hF := hF.trans hw
    clear hs hF' hw
    refine seqR_nil ?_
    obtain ⟨rl3, q4, hr⟩ := cl_some hr
    replace q4 := q4 rfl
    refine HT.cut0 (fun R w => ∃ (s5 : Int), rl3 = Ex.go s5 ∧ AvOK A w ∧ Fr w0 w ∧ R 1 = .int .i64 s5) ?_ ?_
    · refine HT.block ?_
      refine HT.loop (fun k R w => ∃ (y6 : Int) (y7 : Int), M_laws_szStringS_L0 fu p0 k y6 y7 = some rl3 ∧ AvOK A w ∧ Fr w0 w ∧ R 0 = v0 ∧ R 1 = .int .i64 y6 ∧ R 5 = .int .i64 y7 ∧ Rep (eSl eStr) A w v0 p0) fu ⟨_, _, q4, hA, hF, h0, h1, h5, f_v0⟩ ?_
      have hr0 := hr; clear hr q4
      rintro k R w ⟨y6, y7, hr, hA, hF, h0, h1, h5, f_v0⟩
      rcases k with _ | k
      · cases (show none = some _ from hr)
      rw [M_laws_szStringS_L0] at hr
      refine HT.seq ?_
      refine HT.seq ?_
      refine HT.text (l := ⟨_, true, .raw (.int .i64 y7)⟩ :: ⟨_, true, .raw v0⟩ :: ⟨_, true, .raw (.int .i64 (p0.length : Int))⟩ :: ⟨_, true, .raw (.bool (decide (y7 < (p0.length : Int))))⟩ :: []) (tl := []) (by kernel_rfl) (by kernel_rfl) (by kernel_rfl) ?_ ?_
      · exact
          Obls.cons (Obl.plain rfl rfl fun R' w' hw hs hd => by have a0 : R' 5 = .int .i64 y7 := (hs 5 rfl).trans h5; exact of_move a0) <|
          Obls.cons (Obl.plain rfl rfl fun R' w' hw hs hd => by have a0 : R' 0 = v0 := (hs 0 rfl).trans h0; exact of_move a0) <|
          Obls.cons (Obl.plain rfl rfl fun R' w' hw hs hd => by have a0 : R' 13 = v0 := hd 0 _ _ _ rfl rfl rfl rfl rfl; have ra0 := (f_v0.fr hw).eq a0; exact of_len_sl (aT := #[]) ra0 Try.underlying23) <|
          Obls.cons (Obl.plain rfl rfl fun R' w' hw hs hd => by have a0 : R' 12 = .int .i64 y7 := hd 0 _ _ _ rfl rfl rfl rfl rfl; have a1 : R' 14 = .int .i64 (p0.length : Int) := hd 1 _ _ _ rfl rfl rfl rfl rfl; exact of_lss a0 a1) <|
          Obls.nil
      intro R w hw hs hF'
      replace h0 : R 0 = v0 := (hs 0 rfl).trans h0
      replace h1 : R 1 = .int .i64 y6 := (hs 1 rfl).trans h1
      replace h5 : R 5 = .int .i64 y7 := (hs 5 rfl).trans h5
      have h15 : R 15 = .bool (decide (y7 < (p0.length : Int))) := hF' 3 _ _ rfl rfl rfl
      replace f_v0 := f_v0.fr hw
      replace hA := hA.fr hw.size
      replace hF := hF.trans hw
      clear hs hF' hw
      refine seqR_nil ?_
      refine HT.cond (decide (y7 < (p0.length : Int))) h15 (fun c8 => ?_) (fun c8 => ?_)
      · have hr := cnd_t c8 hr
        refine HT.skip ?_
        refine HT.seq ?_
        refine HT.block ?_
        refine HT.seq ?_
        obtain ⟨e9, hr⟩ := ck_some hr
        obtain ⟨e10, hr⟩ := ck_some hr
        refine HT.text (l := ⟨_, true, .raw (.int .i64 y6)⟩ :: ⟨_, true, .raw v0⟩ :: ⟨_, true, .raw (.int .i64 y7)⟩ :: ⟨_, true, .qtr eStr A (gtD p0 y7)⟩ :: ⟨_, true, .rep eStr A (gtD p0 y7)⟩ :: ⟨_, true, .raw (.int .i64 ((gtD p0 y7).length : Int))⟩ :: ⟨_, true, .raw (.int .i64 (y6 - ((gtD p0 y7).length : Int)))⟩ :: ⟨_, true, .raw (.int .i64 (y6 - ((gtD p0 y7).length : Int)))⟩ :: []) (tl := []) (by kernel_rfl) (by kernel_rfl) (by kernel_rfl) ?_ ?_
        · exact
            Obls.cons (Obl.plain rfl rfl fun R' w' hw hs hd => by have a0 : R' 1 = .int .i64 y6 := (hs 1 rfl).trans h1; exact of_move a0) <|
            Obls.cons (Obl.plain rfl rfl fun R' w' hw hs hd => by have a0 : R' 0 = v0 := (hs 0 rfl).trans h0; exact of_move a0) <|
            Obls.cons (Obl.plain rfl rfl fun R' w' hw hs hd => by have a0 : R' 5 = .int .i64 y7 := (hs 5 rfl).trans h5; exact of_move a0) <|
            Obls.cons (Obl.plain rfl rfl fun R' w' hw hs hd => by have a0 : R' 19 = v0 := hd 0 _ _ _ rfl rfl rfl rfl rfl; have a1 : R' 20 = .int .i64 y7 := hd 1 _ _ _ rfl rfl rfl rfl rfl; have ra0 := (f_v0.fr hw).eq a0; exact of_indexAddr ra0 a1 Try.underlying23 Try.sizeOf9 e9) <|
            Obls.cons (Obl.plain rfl rfl fun R' w' hw hs hd => by have a0 : QRep eStr A w' (R' 21) (gtD p0 y7) := hd 0 _ _ _ rfl rfl rfl rfl rfl; exact (of_load a0.ptr Try.isAgg9 Try.sizeOf9)) <|
            Obls.cons (Obl.plain rfl rfl fun R' w' hw hs hd => by have a0 : Rep eStr A w' (R' 22) (gtD p0 y7) := hd 0 _ _ _ rfl rfl rfl rfl rfl; exact of_len_str a0 Try.underlying9) <|
            Obls.cons (Obl.plain rfl rfl fun R' w' hw hs hd => by have a0 : R' 18 = .int .i64 y6 := hd 0 _ _ _ rfl rfl rfl rfl rfl; have a1 : R' 23 = .int .i64 ((gtD p0 y7).length : Int) := hd 1 _ _ _ rfl rfl rfl rfl rfl; exact of_sub a0 a1 e10) <|
            Obls.cons (Obl.plain rfl rfl fun R' w' hw hs hd => by have a0 : R' 24 = .int .i64 (y6 - ((gtD p0 y7).length : Int)) := hd 0 _ _ _ rfl rfl rfl rfl rfl; exact of_assign a0) <|
            Obls.nil
        intro R w hw hs hF'
        replace h0 : R 0 = v0 := (hs 0 rfl).trans h0
        replace h5 : R 5 = .int .i64 y7 := (hs 5 rfl).trans h5
        have h1 : R 1 = .int .i64 (y6 - ((gtD p0 y7).length : Int)) := hF' 7 _ _ rfl rfl rfl
        replace f_v0 := f_v0.fr hw
        replace hA := hA.fr hw.size
        replace hF := hF.trans hw
        clear hs hF' hw
        refine seqR_nil ?_
        refine HT.seq ?_
        refine HT.text (l := ⟨_, true, .raw (.int .i64 (y6 - ((gtD p0 y7).length : Int)))⟩ :: ⟨_, true, .raw (.bool (decide ((y6 - ((gtD p0 y7).length : Int)) < (0 : Int))))⟩ :: []) (tl := []) (by kernel_rfl) (by kernel_rfl) (by kernel_rfl) ?_ ?_
        · exact
            Obls.cons (Obl.plain rfl rfl fun R' w' hw hs hd => by have a0 : R' 1 = .int .i64 (y6 - ((gtD p0 y7).length : Int)) := (hs 1 rfl).trans h1; exact of_move a0) <|
            Obls.cons (Obl.plain rfl rfl fun R' w' hw hs hd => by have a0 : R' 25 = .int .i64 (y6 - ((gtD p0 y7).length : Int)) := hd 0 _ _ _ rfl rfl rfl rfl rfl; exact of_lss a0 rfl) <|
            Obls.nil
        intro R w hw hs hF'
        replace h0 : R 0 = v0 := (hs 0 rfl).trans h0
        replace h1 : R 1 = .int .i64 (y6 - ((gtD p0 y7).length : Int)) := (hs 1 rfl).trans h1
        replace h5 : R 5 = .int .i64 y7 := (hs 5 rfl).trans h5
        have h26 : R 26 = .bool (decide ((y6 - ((gtD p0 y7).length : Int)) < (0 : Int))) := hF' 1 _ _ rfl rfl rfl
        replace f_v0 := f_v0.fr hw
        replace hA := hA.fr hw.size
        replace hF := hF.trans hw
        clear hs hF' hw
        refine seqR_nil ?_
        refine HT.cond (decide ((y6 - ((gtD p0 y7).length : Int)) < (0 : Int))) h26 (fun c11 => ?_) (fun c11 => ?_)
        · have hr := cnd_t c11 hr
          refine HT.seq ?_
          refine HT.text (l := ⟨_, true, .raw (.int .i64 (-1 : Int))⟩ :: []) (tl := []) (by kernel_rfl) (by kernel_rfl) (by kernel_rfl) ?_ ?_
          · exact
              Obls.cons (Obl.plain rfl rfl fun R' w' hw hs hd => by exact of_assign rfl) <|
              Obls.nil
          intro R w hw hs hF'
          have h4 : R 4 = .int .i64 (-1 : Int) := hF' 0 _ _ rfl rfl rfl
          replace hA := hA.fr hw.size
          replace hF := hF.trans hw
          clear hs hF' hw
          refine seqR_nil ?_
          refine HT.ret ?_
          obtain rfl := Option.some.inj hr
          have hr := hr0
          replace hr : some _ = some _ := hr
          obtain rfl := Option.some.inj hr
          exact ⟨.inr rfl, [R 4], ⟨rfl, trivial⟩, h4, hF⟩
        · have hr := cnd_f c11 hr
          refine HT.skip ?_
          obtain ⟨e12, hr⟩ := ck_some hr
          refine HT.text (l := ⟨_, true, .raw (.int .i64 y7)⟩ :: ⟨_, true, .raw (.int .i64 (y7 + (1 : Int)))⟩ :: ⟨_, true, .raw (.int .i64 (y7 + (1 : Int)))⟩ :: []) (tl := []) (by kernel_rfl) (by kernel_rfl) (by kernel_rfl) ?_ ?_
          · exact
              Obls.cons (Obl.plain rfl rfl fun R' w' hw hs hd => by have a0 : R' 5 = .int .i64 y7 := (hs 5 rfl).trans h5; exact of_move a0) <|
              Obls.cons (Obl.plain rfl rfl fun R' w' hw hs hd => by have a0 : R' 16 = .int .i64 y7 := hd 0 _ _ _ rfl rfl rfl rfl rfl; exact of_add a0 rfl e12) <|
              Obls.cons (Obl.plain rfl rfl fun R' w' hw hs hd => by have a0 : R' 17 = .int .i64 (y7 + (1 : Int)) := hd 0 _ _ _ rfl rfl rfl rfl rfl; exact of_assign a0) <|
              Obls.nil
          intro R w hw hs hF'
          replace h0 : R 0 = v0 := (hs 0 rfl).trans h0
          replace h1 : R 1 = .int .i64 (y6 - ((gtD p0 y7).length : Int)) := (hs 1 rfl).trans h1
          have h5 : R 5 = .int .i64 (y7 + (1 : Int)) := hF' 2 _ _ rfl rfl rfl
          replace f_v0 := f_v0.fr hw
          replace hA := hA.fr hw.size
          replace hF := hF.trans hw
          clear hs hF' hw
          refine seqR_nil ?_
          exact Exists.intro k (And.intro (Nat.lt_succ_self k) ⟨_, _, hr, hA, hF, h0, h1, h5, f_v0⟩)
      · have hr := cnd_f c8 hr
        refine HT.exit ?_
        obtain rfl := Option.some.inj hr
        exact Exists.intro _ ⟨rfl, hA, hF, h1⟩
    rintro R w ⟨s5, rfl, hA, hF, h1⟩
    have hr := exM_go hr
    refine HT.seq ?_
    refine HT.text (l := ⟨_, true, .raw (.int .i64 s5)⟩ :: ⟨_, true, .raw (.int .i64 s5)⟩ :: []) (tl := []) (by kernel_rfl) (by kernel_rfl) (by kernel_rfl) ?_ ?_
    · exact
        Obls.cons (Obl.plain rfl rfl fun R' w' hw hs hd => by have a0 : R' 1 = .int .i64 s5 := (hs 1 rfl).trans h1; exact of_move a0) <|
        Obls.cons (Obl.plain rfl rfl fun R' w' hw hs hd => by have a0 : R' 27 = .int .i64 s5 := hd 0 _ _ _ rfl rfl rfl rfl rfl; exact of_assign a0) <|
        Obls.nil
    intro R w hw hs hF'
    have h4 : R 4 = .int .i64 s5 := hF' 1 _ _ rfl rfl rfl
    replace hA := hA.fr hw.size
    replace hF := hF.trans hw
    clear hs hF' hw
    refine seqR_nil ?_
    refine HT.ret ?_
    obtain rfl := Option.some.inj hr
    exact ⟨.inr rfl, [R 4], ⟨rfl, trivial⟩, h4, hF⟩
def M_laws_toTokenCount (fu : Nat) (p0 : T_impl_TokenCount) : Option T_impl_TokenCount :=
  some (p0.1, p0.2)
set_option maxRecDepth 100000 in
set_option maxHeartbeats 4000000 in
theorem M_laws_toTokenCount_ok {fu : Nat} {A0 : Av} {p0 : T_impl_TokenCount} {r : T_impl_TokenCount} (hr : M_laws_toTokenCount fu p0 = some r) {w : World} {v0 : Value} (hA : AvOK A0 w) (h0 : Rep E_impl_TokenCount A0 w v0 p0) :
    Calls Try.prog 60 #[v0] w fun e w' => ∃ v, e = .returned v ∧ (Rep E_impl_TokenCount A0 w' v r ∧ Fr w w') := by
  unfold M_laws_toTokenCount at hr
  obtain ⟨w0, hw0⟩ : ∃ w0, w0 = w := ⟨_, rfl⟩
  have hF : Fr w0 w := hw0 ▸ Fr.refl _
  have hA0 : ∀ b o, A0 b o → b < w0.heap.size := fun b o h => hw0 ▸ hA b o h
  have hA00 : AvOK A0 w0 := hA0
  rw [show Fr w = Fr w0 from hw0 ▸ rfl]
  clear hw0
  obtain ⟨A, hAe⟩ : ∃ A, A = A0 := ⟨_, rfl⟩
  have hAA : ∀ b o, A0 b o → A b o := fun b o h => hAe ▸ h
  replace hA : AvOK A w := hAe ▸ hA
  have hO : IniOK [] A w := IniOK.nil
  refine calls_of_HT2 [.cell 2 76] Try.func60 Try.ntmps60 (by decide) rfl rfl (Nat.le_of_ble_eq_true rfl) ?_
  intro R hR
  have f_v0 : Rep E_impl_TokenCount A w v0 p0 := hAe ▸ h0
  replace h0 : R 0 = v0 := hR 0 _ rfl
  clear hR hAe
  refine HT.seq ?_
  refine HT.textR [] (⟨_, true, [], some (.box w0.heap.size 74 E_impl_TokenCount p0), true, fun A => .any⟩ :: ⟨_, true, [], some (.box w0.heap.size 76 E_impl_TokenCount (([] : List UInt8), (0 : Int))), true, fun A => .any⟩ :: []) (by kernel_rfl) (by kernel_rfl) (Wf.mk' (by kernel_rfl) (UAll.cons ust_any (UAll.cons ust_any (UAll.nil))) (by kernel_rfl) (by kernel_rfl)) hO hA ?_ ?_
  · exact
      OblsR.cons (OblR.made _ rfl rfl rfl rfl fun A' R' w' ho hd => by have a0 : R' 0 = v0 := (ho.old 0 rfl).trans h0; have ra0 := (f_v0.stp ho.stp).eq a0; exact made_box ra0 (Nat.le_trans hF.size ho.ch.size)) <|
      OblsR.cons (OblR.made _ rfl rfl rfl rfl fun A' R' w' ho hd => by exact made_alloc Try.zeroValue76 (fun A w => rep_pr (rep1_str rfl (by decide)) rep1_int) (Nat.le_trans hF.size ho.ch.size)) <|
      OblsR.nil
  intro done ρ σ A R w hdn hI
  obtain ⟨b1_0, e_b1_0⟩ := hI.boxv hdn 0 rfl rfl
  have h1 : R 1 = (.pointer (some ⟨b1_0, 0, none⟩)) := (hI.opvR hdn 0 0 rfl rfl rfl rfl rfl).symm.trans e_b1_0
  obtain ⟨b2_1, e_b2_1⟩ := hI.boxv hdn 1 rfl rfl
  have h2 : R 2 = (.pointer (some ⟨b2_1, 0, none⟩)) := (hI.opvR hdn 1 1 rfl rfl rfl rfl rfl).symm.trans e_b2_1
  replace hAA := hI.low' hAA hA0 (hO.ge (trivial))
  replace hF : Fr w0 w := hF.tr hI.ch (hO.ge (trivial))
  replace hO : IniOK [ob (.pointer (some ⟨b1_0, 0, none⟩)) (.box w0.heap.size 74 E_impl_TokenCount p0), ob (.pointer (some ⟨b2_1, 0, none⟩)) (.box w0.heap.size 76 E_impl_TokenCount (([] : List UInt8), (0 : Int)))] A w := hI.left hdn [(0, ob (.pointer (some ⟨b1_0, 0, none⟩)) (.box w0.heap.size 74 E_impl_TokenCount p0)), (1, ob (.pointer (some ⟨b2_1, 0, none⟩)) (.box w0.heap.size 76 E_impl_TokenCount (([] : List UInt8), (0 : Int))))] ⟨rfl, rfl, e_b1_0, rfl, rfl, ⟨rfl, rfl, e_b2_1, rfl, rfl, trivial⟩⟩
  replace hA := hI.avok
  clear hI
  refine HT.seq ?_
  refine HT.textR [ob (.pointer (some ⟨b1_0, 0, none⟩)) (.box w0.heap.size 74 E_impl_TokenCount p0), ob (.pointer (some ⟨b2_1, 0, none⟩)) (.box w0.heap.size 76 E_impl_TokenCount (([] : List UInt8), (0 : Int)))] (⟨_, true, [], some (.box w0.heap.size 76 E_impl_TokenCount (([] : List UInt8), (0 : Int))), true, fun A => .any⟩ :: []) (by kernel_rfl) (by kernel_rfl) (Wf.mk' (by kernel_rfl) (UAll.cons ust_any (UAll.nil)) (by kernel_rfl) (by kernel_rfl)) hO hA ?_ ?_
  · exact
      OblsR.cons (OblR.made _ rfl rfl rfl rfl fun A' R' w' ho hd => by exact made_alloc Try.zeroValue76 (fun A w => rep_pr (rep1_str rfl (by decide)) rep1_int) (Nat.le_trans hF.size ho.ch.size)) <|
      OblsR.nil
  intro done ρ σ A R w hdn hI
  replace h1 : R 1 = (.pointer (some ⟨b1_0, 0, none⟩)) := (hI.reg rfl).trans h1
  replace h2 : R 2 = (.pointer (some ⟨b2_1, 0, none⟩)) := (hI.reg rfl).trans h2
  have z3 := hI.inivR 0 rfl
  have z4 := hI.inivR 1 rfl
  obtain ⟨b3_4, e_b3_4⟩ := hI.boxv hdn 2 rfl rfl
  have h3 : R 3 = (.pointer (some ⟨b3_4, 0, none⟩)) := (hI.opvR hdn 2 0 rfl rfl rfl rfl rfl).symm.trans e_b3_4
  replace hAA := hI.low' hAA hA0 (hO.ge (⟨rfl, ⟨rfl, trivial⟩⟩))
  replace hF : Fr w0 w := hF.tr hI.ch (hO.ge (⟨rfl, ⟨rfl, trivial⟩⟩))
  replace hO : IniOK [ob (.pointer (some ⟨b1_0, 0, none⟩)) (.box w0.heap.size 74 E_impl_TokenCount p0), ob (.pointer (some ⟨b2_1, 0, none⟩)) (.box w0.heap.size 76 E_impl_TokenCount (([] : List UInt8), (0 : Int))), ob (.pointer (some ⟨b3_4, 0, none⟩)) (.box w0.heap.size 76 E_impl_TokenCount (([] : List UInt8), (0 : Int)))] A w := hI.left hdn [(0, ob (.pointer (some ⟨b1_0, 0, none⟩)) (.box w0.heap.size 74 E_impl_TokenCount p0)), (1, ob (.pointer (some ⟨b2_1, 0, none⟩)) (.box w0.heap.size 76 E_impl_TokenCount (([] : List UInt8), (0 : Int)))), (2, ob (.pointer (some ⟨b3_4, 0, none⟩)) (.box w0.heap.size 76 E_impl_TokenCount (([] : List UInt8), (0 : Int))))] ⟨rfl, rfl, z3, rfl, rfl, ⟨rfl, rfl, z4, rfl, rfl, ⟨rfl, rfl, e_b3_4, rfl, rfl, trivial⟩⟩⟩
  replace hA := hI.avok
  clear hI
  refine HT.seq ?_
  refine HT.textR [ob (.pointer (some ⟨b1_0, 0, none⟩)) (.box w0.heap.size 74 E_impl_TokenCount p0), ob (.pointer (some ⟨b2_1, 0, none⟩)) (.box w0.heap.size 76 E_impl_TokenCount (([] : List UInt8), (0 : Int))), ob (.pointer (some ⟨b3_4, 0, none⟩)) (.box w0.heap.size 76 E_impl_TokenCount (([] : List UInt8), (0 : Int)))] (⟨_, true, [], none, true, fun A => .raw (.pointer (some ⟨b1_0, 0, none⟩))⟩ :: ⟨_, true, [], none, true, fun A => .rep eStr A p0.1⟩ :: ⟨_, true, [], none, true, fun A => .raw (.pointer (some ⟨b3_4, 0, none⟩))⟩ :: ⟨_, true, [2], some (.box w0.heap.size 76 E_impl_TokenCount (p0.1, (0 : Int))), false, fun A => .any⟩ :: []) (by kernel_rfl) (by kernel_rfl) (Wf.mk' (by kernel_rfl) (UAll.cons ust_raw (UAll.cons ust_rep (UAll.cons ust_raw (UAll.cons ust_any (UAll.nil))))) (by kernel_rfl) (by kernel_rfl)) hO hA ?_ ?_
  · exact
      OblsR.cons (OblR.plain rfl rfl rfl rfl fun A' R' w' ho hd => by have a0 : R' 1 = (.pointer (some ⟨b1_0, 0, none⟩)) := (ho.old 1 rfl).trans h1; exact of_fieldAddr_raw a0 ff_74_0 Try.sizeOf9 (by decide) rfl) <|
      OblsR.cons (OblR.plain rfl rfl rfl rfl fun A' R' w' ho hd => by have a0 : R' 4 = (.pointer (some ⟨b1_0, 0, none⟩)) := hd 0 _ _ _ rfl rfl rfl rfl rfl; exact (of_load_box (ho.rd 0 _ rfl rfl) a0 fl_impl_TokenCount_0 rfl Try.isAgg9 Try.sizeOf9)) <|
      OblsR.cons (OblR.plain rfl rfl rfl rfl fun A' R' w' ho hd => by have a0 : R' 3 = (.pointer (some ⟨b3_4, 0, none⟩)) := (ho.old 3 rfl).trans h3; exact of_fieldAddr_raw a0 ff_76_0 Try.sizeOf9 (by decide) rfl) <|
      OblsR.cons (OblR.took 2 _ _ rfl rfl rfl rfl rfl fun A' R' w' ho hd u hok hav hin hop hds => by have a0 : R' 6 = (.pointer (some ⟨b3_4, 0, none⟩)) := hd 0 _ _ _ rfl rfl rfl rfl rfl; have a1 : Rep eStr A' w' (R' 5) p0.1 := hd 1 _ _ _ rfl rfl rfl rfl rfl; exact took_store a1 a0 (hin _ rfl) hok hav fs_impl_TokenCount_0 Try.sizeOf9 rfl) <|
      OblsR.nil
  intro done ρ σ A R w hdn hI
  replace h1 : R 1 = (.pointer (some ⟨b1_0, 0, none⟩)) := (hI.reg rfl).trans h1
  replace h2 : R 2 = (.pointer (some ⟨b2_1, 0, none⟩)) := (hI.reg rfl).trans h2
  replace h3 : R 3 = (.pointer (some ⟨b3_4, 0, none⟩)) := (hI.reg rfl).trans h3
  have z6 := hI.inivR 0 rfl
  have z7 := hI.inivR 1 rfl
  have z8 := hI.inivR 2 rfl
  have z9 := (hI.opnR hdn 6 3 rfl rfl rfl rfl rfl).trans z8
  replace hAA := hI.low' hAA hA0 (hO.ge (⟨rfl, ⟨rfl, ⟨rfl, trivial⟩⟩⟩))
  replace hF : Fr w0 w := hF.tr hI.ch (hO.ge (⟨rfl, ⟨rfl, ⟨rfl, trivial⟩⟩⟩))
  replace hO : IniOK [ob (.pointer (some ⟨b1_0, 0, none⟩)) (.box w0.heap.size 74 E_impl_TokenCount p0), ob (.pointer (some ⟨b2_1, 0, none⟩)) (.box w0.heap.size 76 E_impl_TokenCount (([] : List UInt8), (0 : Int))), ob (.pointer (some ⟨b3_4, 0, none⟩)) (.box w0.heap.size 76 E_impl_TokenCount (p0.1, (0 : Int)))] A w := hI.left hdn [(0, ob (.pointer (some ⟨b1_0, 0, none⟩)) (.box w0.heap.size 74 E_impl_TokenCount p0)), (1, ob (.pointer (some ⟨b2_1, 0, none⟩)) (.box w0.heap.size 76 E_impl_TokenCount (([] : List UInt8), (0 : Int)))), (6, ob (.pointer (some ⟨b3_4, 0, none⟩)) (.box w0.heap.size 76 E_impl_TokenCount (p0.1, (0 : Int))))] ⟨rfl, rfl, z6, rfl, rfl, ⟨rfl, rfl, z7, rfl, rfl, ⟨rfl, rfl, z9, rfl, rfl, trivial⟩⟩⟩
  replace hA := hI.avok
  clear hI
  refine HT.seq ?_
  refine HT.textR [ob (.pointer (some ⟨b1_0, 0, none⟩)) (.box w0.heap.size 74 E_impl_TokenCount p0), ob (.pointer (some ⟨b2_1, 0, none⟩)) (.box w0.heap.size 76 E_impl_TokenCount (([] : List UInt8), (0 : Int))), ob (.pointer (some ⟨b3_4, 0, none⟩)) (.box w0.heap.size 76 E_impl_TokenCount (p0.1, (0 : Int)))] (⟨_, true, [], none, true, fun A => .raw (.pointer (some ⟨b1_0, 1, none⟩))⟩ :: ⟨_, true, [], none, true, fun A => .raw (.int .i64 p0.2)⟩ :: ⟨_, true, [], none, true, fun A => .raw (.pointer (some ⟨b3_4, 1, none⟩))⟩ :: ⟨_, true, [2], some (.box w0.heap.size 76 E_impl_TokenCount (p0.1, p0.2)), false, fun A => .any⟩ :: []) (by kernel_rfl) (by kernel_rfl) (Wf.mk' (by kernel_rfl) (UAll.cons ust_raw (UAll.cons ust_raw (UAll.cons ust_raw (UAll.cons ust_any (UAll.nil))))) (by kernel_rfl) (by kernel_rfl)) hO hA ?_ ?_
  · exact
      OblsR.cons (OblR.plain rfl rfl rfl rfl fun A' R' w' ho hd => by have a0 : R' 1 = (.pointer (some ⟨b1_0, 0, none⟩)) := (ho.old 1 rfl).trans h1; exact of_fieldAddr_raw a0 ff_74_1 Try.sizeOf3 (by decide) rfl) <|
      OblsR.cons (OblR.plain rfl rfl rfl rfl fun A' R' w' ho hd => by have a0 : R' 7 = (.pointer (some ⟨b1_0, 1, none⟩)) := hd 0 _ _ _ rfl rfl rfl rfl rfl; exact OpF.int (of_load_box (ho.rd 0 _ rfl rfl) a0 fl_impl_TokenCount_1 rfl Try.isAgg3 Try.sizeOf3)) <|
      OblsR.cons (OblR.plain rfl rfl rfl rfl fun A' R' w' ho hd => by have a0 : R' 3 = (.pointer (some ⟨b3_4, 0, none⟩)) := (ho.old 3 rfl).trans h3; exact of_fieldAddr_raw a0 ff_76_1 Try.sizeOf3 (by decide) rfl) <|
      OblsR.cons (OblR.took 2 _ _ rfl rfl rfl rfl rfl fun A' R' w' ho hd u hok hav hin hop hds => by have a0 : R' 9 = (.pointer (some ⟨b3_4, 1, none⟩)) := hd 0 _ _ _ rfl rfl rfl rfl rfl; have a1 : R' 8 = .int .i64 p0.2 := hd 1 _ _ _ rfl rfl rfl rfl rfl; exact took_store (rep_int.eq a1) a0 (hin _ rfl) hok hav fs_impl_TokenCount_1 Try.sizeOf3 rfl) <|
      OblsR.nil
  intro done ρ σ A R w hdn hI
  replace h2 : R 2 = (.pointer (some ⟨b2_1, 0, none⟩)) := (hI.reg rfl).trans h2
  replace h3 : R 3 = (.pointer (some ⟨b3_4, 0, none⟩)) := (hI.reg rfl).trans h3
  have z10 := hI.inivR 0 rfl
  have z11 := hI.inivR 1 rfl
  have z12 := hI.inivR 2 rfl
  have z13 := (hI.opnR hdn 6 3 rfl rfl rfl rfl rfl).trans z12
  replace hAA := hI.low' hAA hA0 (hO.ge (⟨rfl, ⟨rfl, ⟨rfl, trivial⟩⟩⟩))
  replace hF : Fr w0 w := hF.tr hI.ch (hO.ge (⟨rfl, ⟨rfl, ⟨rfl, trivial⟩⟩⟩))
  replace hO : IniOK [ob (.pointer (some ⟨b2_1, 0, none⟩)) (.box w0.heap.size 76 E_impl_TokenCount (([] : List UInt8), (0 : Int))), ob (.pointer (some ⟨b3_4, 0, none⟩)) (.box w0.heap.size 76 E_impl_TokenCount (p0.1, p0.2))] A w := hI.left hdn [(1, ob (.pointer (some ⟨b2_1, 0, none⟩)) (.box w0.heap.size 76 E_impl_TokenCount (([] : List UInt8), (0 : Int)))), (6, ob (.pointer (some ⟨b3_4, 0, none⟩)) (.box w0.heap.size 76 E_impl_TokenCount (p0.1, p0.2)))] ⟨rfl, rfl, z11, rfl, rfl, ⟨rfl, rfl, z13, rfl, rfl, trivial⟩⟩
  replace hA := hI.avok
  clear hI
  refine HT.seq ?_
  refine HT.textR [ob (.pointer (some ⟨b2_1, 0, none⟩)) (.box w0.heap.size 76 E_impl_TokenCount (([] : List UInt8), (0 : Int))), ob (.pointer (some ⟨b3_4, 0, none⟩)) (.box w0.heap.size 76 E_impl_TokenCount (p0.1, p0.2))] (⟨_, true, [], none, true, fun A => .rep E_impl_TokenCount A (p0.1, p0.2)⟩ :: ⟨_, true, [0], some (.box w0.heap.size 76 E_impl_TokenCount (p0.1, p0.2)), false, fun A => .any⟩ :: []) (by kernel_rfl) (by kernel_rfl) (Wf.mk' (by kernel_rfl) (UAll.cons ust_rep (UAll.cons ust_any (UAll.nil))) (by kernel_rfl) (by kernel_rfl)) hO hA ?_ ?_
  · exact
      OblsR.cons (OblR.plain rfl rfl rfl rfl fun A' R' w' ho hd => by have a0 : R' 3 = (.pointer (some ⟨b3_4, 0, none⟩)) := (ho.old 3 rfl).trans h3; exact (of_load_box (ho.rd 1 _ rfl rfl) a0 (Fld.id _) rfl Try.isAgg76 Try.sizeOf76)) <|
      OblsR.cons (OblR.took 0 _ _ rfl rfl rfl rfl rfl fun A' R' w' ho hd u hok hav hin hop hds => by have a0 : R' 2 = (.pointer (some ⟨b2_1, 0, none⟩)) := (ho.old 2 rfl).trans h2; have a1 : Rep E_impl_TokenCount A' w' (R' 10) (p0.1, p0.2) := hd 0 _ _ _ rfl rfl rfl rfl rfl; exact took_store a1 a0 (hin _ rfl) hok hav (FldS.id _) Try.sizeOf76 rfl) <|
      OblsR.nil
  intro done ρ σ A R w hdn hI
  replace h2 : R 2 = (.pointer (some ⟨b2_1, 0, none⟩)) := (hI.reg rfl).trans h2
  have z14 := hI.inivR 0 rfl
  have z15 := (hI.opnR hdn 3 1 rfl rfl rfl rfl rfl).trans z14
  have z16 := hI.inivR 1 rfl
  replace hAA := hI.low' hAA hA0 (hO.ge (⟨rfl, ⟨rfl, trivial⟩⟩))
  replace hF : Fr w0 w := hF.tr hI.ch (hO.ge (⟨rfl, ⟨rfl, trivial⟩⟩))
  replace hO : IniOK [ob (.pointer (some ⟨b2_1, 0, none⟩)) (.box w0.heap.size 76 E_impl_TokenCount (p0.1, p0.2))] A w := hI.left hdn [(3, ob (.pointer (some ⟨b2_1, 0, none⟩)) (.box w0.heap.size 76 E_impl_TokenCount (p0.1, p0.2)))] ⟨rfl, rfl, z15, rfl, rfl, trivial⟩
  replace hA := hI.avok
  clear hI
  refine HT.ret ?_
  obtain rfl := Option.some.inj hr
  obtain ⟨v_2, e_2, p_2⟩ := res_cell (hO.ok 0 _ rfl).1 h2 Try.isAgg76 Try.sizeOf76 hAA
  exact ⟨.inr rfl, [v_2], ⟨e_2, trivial⟩, p_2, hF⟩
def M_laws_toTokenCountS_L0 (fu : Nat) (p0 : List T_impl_TokenCount) : Nat → Int → (List T_impl_TokenCount) → Option (List T_impl_TokenCount)
  | 0, _, _ => none
  | k + 1, y6, y7 =>
    bif (decide (y6 < (p0.length : Int))) then (
      ck (inR y6 p0.length) <|
      cl true (M_laws_toTokenCount fu (gtD p0 y6)) fun x10 =>
      ck (inR y6 y7.length) <|
      ck (i64B (y6 + (1 : Int))) <|
      M_laws_toTokenCountS_L0 fu p0 k (y6 + (1 : Int)) (y7.set y6.toNat x10)
    ) else (
      some y7
    )
def M_laws_toTokenCountS (fu : Nat) (p0 : List T_impl_TokenCount) : Option (List T_impl_TokenCount) :=
  ck (mkOK (p0.length : Int)) <|
  cl true (M_laws_toTokenCountS_L0 fu p0 fu (0 : Int) (List.replicate (p0.length : Int).toNat (([] : List UInt8), (0 : Int)))) fun s5 =>
  some s5
set_option maxRecDepth 100000 in
set_option maxHeartbeats 4000000 in
theorem M_laws_toTokenCountS_ok {fu : Nat} {A0 : Av} {p0 : List T_impl_TokenCount} {r : List T_impl_TokenCount} (hr : M_laws_toTokenCountS fu p0 = some r) {w : World} {v0 : Value} (hA : AvOK A0 w) (h0 : Rep (eSl E_impl_TokenCount) A0 w v0 p0) :
    Calls Try.prog 16 #[v0] w fun e w' => ∃ v, e = .returned v ∧ ((Res.vec w.heap.size 76 E_impl_TokenCount r).ok (addA A0 v) v w' ∧ Fr w w') := by
  unfold M_laws_toTokenCountS at hr
  obtain ⟨w0, hw0⟩ : ∃ w0, w0 = w := ⟨_, rfl⟩
  have hF : Fr w0 w := hw0 ▸ Fr.refl _
  have hA0 : ∀ b o, A0 b o → b < w0.heap.size := fun b o h => hw0 ▸ hA b o h
  have hA00 : AvOK A0 w0 := hA0
  rw [show w.heap.size = w0.heap.size from hw0 ▸ rfl]
  rw [show Fr w = Fr w0 from hw0 ▸ rfl]
  clear hw0
  obtain ⟨A, hAe⟩ : ∃ A, A = A0 := ⟨_, rfl⟩
  have hAA : ∀ b o, A0 b o → A b o := fun b o h => hAe ▸ h
  replace hA : AvOK A w := hAe ▸ hA
  have hO : IniOK [] A w := IniOK.nil
  refine calls_of_HT2 [.tmp 2] Try.func16 Try.ntmps16 (by decide) rfl rfl (Nat.le_of_ble_eq_true rfl) ?_
  intro R hR
  have f_v0 : Rep (eSl E_impl_TokenCount) A w v0 p0 := hAe ▸ h0
  replace h0 : R 0 = v0 := hR 0 _ rfl
  clear hR hAe
  refine HT.seq ?_
  refine HT.text (l := ⟨_, true, .any⟩ :: []) (tl := []) (by kernel_rfl) (by kernel_rfl) (by kernel_rfl) ?_ ?_
  · exact
      Obls.cons (Obl.plain rfl rfl fun R' w' hw hs hd => by exact of_assign trivial) <|
      Obls.nil
  intro R w hw hs hF'
  replace h0 : R 0 = v0 := (hs 0 rfl).trans h0
  replace f_v0 := f_v0.fr hw
  replace hO := hO.fr hw
  replace hA := hA.fr hw.size
  replace hF := hF.trans hw
  clear hs hF' hw
  refine seqR_nil ?_
  refine HT.seq ?_
  obtain ⟨e1, hr⟩ := ck_some hr
  refine HT.textR [] (⟨_, true, [], none, true, fun A => .raw v0⟩ :: ⟨_, true, [], none, true, fun A => .raw (.int .i64 (p0.length : Int))⟩ :: ⟨_, true, [], some (.vec w0.heap.size 76 E_impl_TokenCount (List.replicate (p0.length : Int).toNat (([] : List UInt8), (0 : Int)))), true, fun A => .any⟩ :: ⟨_, true, [2], some (.vec w0.heap.size 76 E_impl_TokenCount (List.replicate (p0.length : Int).toNat (([] : List UInt8), (0 : Int)))), true, fun A => .any⟩ :: []) (by kernel_rfl) (by kernel_rfl) (Wf.mk' (by kernel_rfl) (UAll.cons ust_raw (UAll.cons ust_raw (UAll.cons ust_any (UAll.cons ust_any (UAll.nil))))) (by kernel_rfl) (by kernel_rfl)) hO hA ?_ ?_
  · exact
      OblsR.cons (OblR.plain rfl rfl rfl rfl fun A' R' w' ho hd => by have a0 : R' 0 = v0 := (ho.old 0 rfl).trans h0; exact of_move a0) <|
      OblsR.cons (OblR.plain rfl rfl rfl rfl fun A' R' w' ho hd => by have a0 : R' 5 = v0 := hd 0 _ _ _ rfl rfl rfl rfl rfl; have ra0 := (f_v0.stp ho.stp).eq a0; exact of_len_sl (aT := #[]) ra0 Try.underlying22) <|
      OblsR.cons (OblR.made _ rfl rfl rfl rfl fun A' R' w' ho hd => by have a0 : R' 6 = .int .i64 (p0.length : Int) := hd 0 _ _ _ rfl rfl rfl rfl rfl; have a1 : R' 6 = .int .i64 (p0.length : Int) := hd 0 _ _ _ rfl rfl rfl rfl rfl; exact made_make a0 a1 e1 Try.underlying27 el_76 Try.zeroValue76 (fun A w => rep_pr (rep1_str rfl (by decide)) rep1_int) (Nat.le_trans hF.size ho.ch.size)) <|
      OblsR.cons (OblR.took 2 _ _ rfl rfl rfl rfl rfl fun A' R' w' ho hd u hok hav hin hop hds => by exact took_assign (hop _ _ rfl rfl rfl rfl).symm hok hav) <|
      OblsR.nil
  intro done ρ σ A R w hdn hI
  replace h0 : R 0 = v0 := (hI.reg rfl).trans h0
  obtain ⟨u2, e_u2⟩ : ∃ u, ρ 3 = u := ⟨_, rfl⟩
  have h3 : R 3 = u2 := (hI.opvR hdn 3 3 rfl rfl rfl rfl rfl).symm.trans e_u2
  replace f_v0 := f_v0.stp hI.stp
  replace hAA := hI.low' hAA hA0 (hO.ge (trivial))
  replace hF : Fr w0 w := hF.tr hI.ch (hO.ge (trivial))
  replace hO : IniOK [ob u2 (.vec w0.heap.size 76 E_impl_TokenCount (List.replicate (p0.length : Int).toNat (([] : List UInt8), (0 : Int))))] A w := hI.left hdn [(3, ob u2 (.vec w0.heap.size 76 E_impl_TokenCount (List.replicate (p0.length : Int).toNat (([] : List UInt8), (0 : Int)))))] ⟨rfl, rfl, e_u2, rfl, rfl, trivial⟩
  replace hA := hI.avok
  clear hI
  refine HT.seq ?_
  refine HT.seq ?_
  refine HT.text (l := ⟨_, true, .raw (.int .i64 (0 : Int))⟩ :: []) (tl := []) (by kernel_rfl) (by kernel_rfl) (by kernel_rfl) ?_ ?_
  · exact
      Obls.cons (Obl.plain rfl rfl fun R' w' hw hs hd => by exact of_assign rfl) <|
      Obls.nil
  intro R w hw hs hF'
  replace h0 : R 0 = v0 := (hs 0 rfl).trans h0
  replace h3 : R 3 = u2 := (hs 3 rfl).trans h3
  have h4 : R 4 = .int .i64 (0 : Int) := hF' 0 _ _ rfl rfl rfl
  replace f_v0 := f_v0.fr hw
  replace hO := hO.fr hw
  replace hA := hA.fr hw.size
  replace hF := hF.trans hw
  clear hs hF' hw
  refine seqR_nil ?_
  obtain ⟨rl3, q4, hr⟩ := cl_some hr
  replace q4 := q4 rfl
  refine HT.cut0 (fun R w => ∃ A : Av, ∃ (s5 : (List T_impl_TokenCount)), rl3 = s5 ∧ AvOK A w ∧ Fr w0 w ∧ (∀ b o, A0 b o → A b o) ∧ IniOK [ob u2 (.vec w0.heap.size 76 E_impl_TokenCount s5)] A w ∧ R 3 = u2) ?_ ?_
  · refine HT.block ?_
    refine HT.loop (fun k R w => ∃ A : Av, ∃ (y6 : Int) (y7 : List T_impl_TokenCount), M_laws_toTokenCountS_L0 fu p0 k y6 y7 = some rl3 ∧ AvOK A w ∧ Fr w0 w ∧ (∀ b o, A0 b o → A b o) ∧ IniOK [ob u2 (.vec w0.heap.size 76 E_impl_TokenCount y7)] A w ∧ R 0 = v0 ∧ R 3 = u2 ∧ R 4 = .int .i64 y6 ∧ Rep (eSl E_impl_TokenCount) A w v0 p0) fu ⟨_, _, _, q4, hA, hF, hAA, hO, h0, h3, h4, f_v0⟩ ?_
    have hr0 := hr; clear hr q4
    rintro k R w ⟨A, y6, y7, hr, hA, hF, hAA, hO, h0, h3, h4, f_v0⟩
    rcases k with _ | k
    · cases (show none = some _ from hr)
    rw [M_laws_toTokenCountS_L0] at hr
    refine HT.seq ?_
    refine HT.seq ?_
    refine HT.text (l := ⟨_, true, .raw (.int .i64 y6)⟩ :: ⟨_, true, .raw v0⟩ :: ⟨_, true, .raw (.int .i64 (p0.length : Int))⟩ :: ⟨_, true, .raw (.bool (decide (y6 < (p0.length : Int))))⟩ :: []) (tl := []) (by kernel_rfl) (by kernel_rfl) (by kernel_rfl) ?_ ?_
    · exact
        Obls.cons (Obl.plain rfl rfl fun R' w' hw hs hd => by have a0 : R' 4 = .int .i64 y6 := (hs 4 rfl).trans h4; exact of_move a0) <|
        Obls.cons (Obl.plain rfl rfl fun R' w' hw hs hd => by have a0 : R' 0 = v0 := (hs 0 rfl).trans h0; exact of_move a0) <|
        Obls.cons (Obl.plain rfl rfl fun R' w' hw hs hd => by have a0 : R' 9 = v0 := hd 0 _ _ _ rfl rfl rfl rfl rfl; have ra0 := (f_v0.fr hw).eq a0; exact of_len_sl (aT := #[]) ra0 Try.underlying22) <|
        Obls.cons (Obl.plain rfl rfl fun R' w' hw hs hd => by have a0 : R' 8 = .int .i64 y6 := hd 0 _ _ _ rfl rfl rfl rfl rfl; have a1 : R' 10 = .int .i64 (p0.length : Int) := hd 1 _ _ _ rfl rfl rfl rfl rfl; exact of_lss a0 a1) <|
        Obls.nil
    intro R w hw hs hF'
    replace h0 : R 0 = v0 := (hs 0 rfl).trans h0
    replace h3 : R 3 = u2 := (hs 3 rfl).trans h3
    replace h4 : R 4 = .int .i64 y6 := (hs 4 rfl).trans h4
    have h11 : R 11 = .bool (decide (y6 < (p0.length : Int))) := hF' 3 _ _ rfl rfl rfl
    replace f_v0 := f_v0.fr hw
    replace hO := hO.fr hw
    replace hA := hA.fr hw.size
    replace hF := hF.trans hw
    clear hs hF' hw
    refine seqR_nil ?_
    refine HT.cond (decide (y6 < (p0.length : Int))) h11 (fun c8 => ?_) (fun c8 => ?_)
    · have hr := cnd_t c8 hr
      refine HT.skip ?_
      refine HT.seq ?_
      refine HT.block ?_
      obtain ⟨e9, hr⟩ := ck_some hr
      obtain ⟨x10, q11, hr⟩ := cl_some hr
      obtain ⟨e12, hr⟩ := ck_some hr
      refine HT.textR [ob u2 (.vec w0.heap.size 76 E_impl_TokenCount y7)] (⟨_, true, [], none, true, fun A => .raw u2⟩ :: ⟨_, true, [], none, true, fun A => .raw (.int .i64 y6)⟩ :: ⟨_, true, [], none, true, fun A => .raw v0⟩ :: ⟨_, true, [], none, true, fun A => .raw (.int .i64 y6)⟩ :: ⟨_, true, [], none, true, fun A => .qtr E_impl_TokenCount A (gtD p0 y6)⟩ :: ⟨_, true, [], none, true, fun A => .rep E_impl_TokenCount A (gtD p0 y6)⟩ :: ⟨_, true, [], none, true, fun A => .rep E_impl_TokenCount A x10⟩ :: ⟨_, true, [], none, true, fun A => .raw (vptr u2 (y6.toNat * 2))⟩ :: ⟨_, true, [0], some (.vec w0.heap.size 76 E_impl_TokenCount (y7.set y6.toNat x10)), false, fun A => .any⟩ :: []) (by kernel_rfl) (by kernel_rfl) (Wf.mk' (by kernel_rfl) (UAll.cons ust_raw (UAll.cons ust_raw (UAll.cons ust_raw (UAll.cons ust_raw (UAll.cons ust_qtr (UAll.cons ust_rep (UAll.cons ust_rep (UAll.cons ust_raw (UAll.cons ust_any (UAll.nil)))))))))) (by kernel_rfl) (by kernel_rfl)) hO hA ?_ ?_
      · exact
          OblsR.cons (OblR.plain rfl rfl rfl rfl fun A' R' w' ho hd => by have a0 : R' 3 = u2 := (ho.old 3 rfl).trans h3; exact of_move a0) <|
          OblsR.cons (OblR.plain rfl rfl rfl rfl fun A' R' w' ho hd => by have a0 : R' 4 = .int .i64 y6 := (ho.old 4 rfl).trans h4; exact of_move a0) <|
          OblsR.cons (OblR.plain rfl rfl rfl rfl fun A' R' w' ho hd => by have a0 : R' 0 = v0 := (ho.old 0 rfl).trans h0; exact of_move a0) <|
          OblsR.cons (OblR.plain rfl rfl rfl rfl fun A' R' w' ho hd => by have a0 : R' 4 = .int .i64 y6 := (ho.old 4 rfl).trans h4; exact of_move a0) <|
          OblsR.cons (OblR.plain rfl rfl rfl rfl fun A' R' w' ho hd => by have a0 : R' 16 = v0 := hd 0 _ _ _ rfl rfl rfl rfl rfl; have a1 : R' 17 = .int .i64 y6 := hd 1 _ _ _ rfl rfl rfl rfl rfl; have ra0 := (f_v0.stp ho.stp).eq a0; exact of_indexAddr ra0 a1 Try.underlying22 Try.sizeOf74 e9) <|
          OblsR.cons (OblR.plain rfl rfl rfl rfl fun A' R' w' ho hd => by have a0 : QRep E_impl_TokenCount A' w' (R' 18) (gtD p0 y6) := hd 0 _ _ _ rfl rfl rfl rfl rfl; exact (of_load a0.ptr Try.isAgg74 Try.sizeOf74)) <|
          OblsR.cons (OblR.plain rfl rfl rfl rfl fun A' R' w' ho hd => by have a0 : Rep E_impl_TokenCount A' w' (R' 19) (gtD p0 y6) := hd 0 _ _ _ rfl rfl rfl rfl rfl; exact of_call Try.call60 (M_laws_toTokenCount_ok (q11 rfl) ho.av a0)) <|
          OblsR.cons (OblR.plain rfl rfl rfl rfl fun A' R' w' ho hd => by have a0 : R' 14 = u2 := hd 0 _ _ _ rfl rfl rfl rfl rfl; have a1 : R' 15 = .int .i64 y6 := hd 1 _ _ _ rfl rfl rfl rfl rfl; exact of_indexAddr_vec (hO.ok 0 _ rfl).1 a0 a1 Try.underlying27 Try.sizeOf76 e12 rfl) <|
          OblsR.cons (OblR.took 0 _ _ rfl rfl rfl rfl rfl fun A' R' w' ho hd u hok hav hin hop hds => by have a0 : R' 21 = (vptr u2 (y6.toNat * 2)) := hd 0 _ _ _ rfl rfl rfl rfl rfl; have a1 : Rep E_impl_TokenCount A' w' (R' 20) x10 := hd 1 _ _ _ rfl rfl rfl rfl rfl; obtain rfl := hin _ rfl; exact took_vstore a1 hok hav a0 e12 rfl (FldS.id _) Try.sizeOf76 rfl) <|
          OblsR.nil
      intro done ρ σ A R w hdn hI
      replace h0 : R 0 = v0 := (hI.reg rfl).trans h0
      replace h3 : R 3 = u2 := (hI.reg rfl).trans h3
      replace h4 : R 4 = .int .i64 y6 := (hI.reg rfl).trans h4
      have z13 := hI.inivR 0 rfl
      have z14 := (hI.opnR hdn 9 8 rfl rfl rfl rfl rfl).trans z13
      replace f_v0 := f_v0.stp hI.stp
      replace hAA := hI.low' hAA hA0 (hO.ge (⟨rfl, trivial⟩))
      replace hF : Fr w0 w := hF.tr hI.ch (hO.ge (⟨rfl, trivial⟩))
      replace hO : IniOK [ob u2 (.vec w0.heap.size 76 E_impl_TokenCount (y7.set y6.toNat x10))] A w := hI.left hdn [(9, ob u2 (.vec w0.heap.size 76 E_impl_TokenCount (y7.set y6.toNat x10)))] ⟨rfl, rfl, z14, rfl, rfl, trivial⟩
      replace hA := hI.avok
      clear hI
      obtain ⟨e15, hr⟩ := ck_some hr
      refine HT.text (l := ⟨_, true, .raw (.int .i64 y6)⟩ :: ⟨_, true, .raw (.int .i64 (y6 + (1 : Int)))⟩ :: ⟨_, true, .raw (.int .i64 (y6 + (1 : Int)))⟩ :: []) (tl := []) (by kernel_rfl) (by kernel_rfl) (by kernel_rfl) ?_ ?_
      · exact
          Obls.cons (Obl.plain rfl rfl fun R' w' hw hs hd => by have a0 : R' 4 = .int .i64 y6 := (hs 4 rfl).trans h4; exact of_move a0) <|
          Obls.cons (Obl.plain rfl rfl fun R' w' hw hs hd => by have a0 : R' 12 = .int .i64 y6 := hd 0 _ _ _ rfl rfl rfl rfl rfl; exact of_add a0 rfl e15) <|
          Obls.cons (Obl.plain rfl rfl fun R' w' hw hs hd => by have a0 : R' 13 = .int .i64 (y6 + (1 : Int)) := hd 0 _ _ _ rfl rfl rfl rfl rfl; exact of_assign a0) <|
          Obls.nil
      intro R w hw hs hF'
      replace h0 : R 0 = v0 := (hs 0 rfl).trans h0
      replace h3 : R 3 = u2 := (hs 3 rfl).trans h3
      have h4 : R 4 = .int .i64 (y6 + (1 : Int)) := hF' 2 _ _ rfl rfl rfl
      replace f_v0 := f_v0.fr hw
      replace hO := hO.fr hw
      replace hA := hA.fr hw.size
      replace hF := hF.trans hw
      clear hs hF' hw
      refine seqR_nil ?_
      exact Exists.intro k (And.intro (Nat.lt_succ_self k) ⟨_, _, _, hr, hA, hF, hAA, hO, h0, h3, h4, f_v0⟩)
    · have hr := cnd_f c8 hr
      refine HT.exit ?_
      obtain rfl := Option.some.inj hr
      exact Exists.intro _ ⟨_, rfl, hA, hF, hAA, hO, h3⟩
  rintro R w ⟨A, s5, es, hA, hF, hAA, hO, h3⟩
  obtain rfl := es.symm
  refine HT.seq ?_
  refine HT.text (l := ⟨_, true, .raw u2⟩ :: ⟨_, true, .raw u2⟩ :: []) (tl := []) (by kernel_rfl) (by kernel_rfl) (by kernel_rfl) ?_ ?_
  · exact
      Obls.cons (Obl.plain rfl rfl fun R' w' hw hs hd => by have a0 : R' 3 = u2 := (hs 3 rfl).trans h3; exact of_move a0) <|
      Obls.cons (Obl.plain rfl rfl fun R' w' hw hs hd => by have a0 : R' 22 = u2 := hd 0 _ _ _ rfl rfl rfl rfl rfl; exact of_assign a0) <|
      Obls.nil
  intro R w hw hs hF'
  have h2 : R 2 = u2 := hF' 1 _ _ rfl rfl rfl
  replace hO := hO.fr hw
  replace hA := hA.fr hw.size
  replace hF := hF.trans hw
  clear hs hF' hw
  refine seqR_nil ?_
  refine HT.ret ?_
  obtain rfl := Option.some.inj hr
  exact ⟨.inr rfl, [R 2], ⟨rfl, trivial⟩, (own_post (hO.ok 0 _ rfl) hAA h2), hF⟩
theorem M_laws_toTokenCountS_okR {fu : Nat} {A0 : Av} {p0 : List T_impl_TokenCount} {r : List T_impl_TokenCount} (hr : M_laws_toTokenCountS fu p0 = some r) {w : World} {v0 : Value} (hA : AvOK A0 w) (h0 : Rep (eSl E_impl_TokenCount) A0 w v0 p0) :
    Calls Try.prog 16 #[v0] w fun e w' => ∃ v, e = .returned v ∧ (Rep (eSl E_impl_TokenCount) A0 w' v r ∧ Fr w w') := by
  refine Calls.mono (M_laws_toTokenCountS_ok hr hA h0) ?_
  rintro e w' ⟨v, he, hv, hf⟩
  exact ⟨v, he, vec_rep hv (fun b o h => .inl h) hA, hf⟩
def M_laws_toStringS_L0 (fu : Nat) (p0 : List (List UInt8)) : Nat → Int → (List (List UInt8)) → Option (List (List UInt8))
  | 0, _, _ => none
  | k + 1, y6, y7 =>
    bif (decide (y6 < (p0.length : Int))) then (
      ck (inR y6 p0.length) <|
      ck (inR y6 y7.length) <|
      ck (i64B (y6 + (1 : Int))) <|
      M_laws_toStringS_L0 fu p0 k (y6 + (1 : Int)) (y7.set y6.toNat (gtD p0 y6))
    ) else (
      some y7
    )
def M_laws_toStringS (fu : Nat) (p0 : List (List UInt8)) : Option (List (List UInt8)) :=
  ck (mkOK (p0.length : Int)) <|
  cl true (M_laws_toStringS_L0 fu p0 fu (0 : Int) (List.replicate (p0.length : Int).toNat ([] : List UInt8))) fun s5 =>
  some s5
set_option maxRecDepth 100000 in
set_option maxHeartbeats 4000000 in
theorem M_laws_toStringS_ok {fu : Nat} {A0 : Av} {p0 : List (List UInt8)} {r : List (List UInt8)} (hr : M_laws_toStringS fu p0 = some r) {w : World} {v0 : Value} (hA : AvOK A0 w) (h0 : Rep (eSl eStr) A0 w v0 p0) :
    Calls Try.prog 17 #[v0] w fun e w' => ∃ v, e = .returned v ∧ ((Res.vec w.heap.size 9 eStr r).ok (addA A0 v) v w' ∧ Fr w w') := by
  unfold M_laws_toStringS at hr
  obtain ⟨w0, hw0⟩ : ∃ w0, w0 = w := ⟨_, rfl⟩
  have hF : Fr w0 w := hw0 ▸ Fr.refl _
  have hA0 : ∀ b o, A0 b o → b < w0.heap.size := fun b o h => hw0 ▸ hA b o h
  have hA00 : AvOK A0 w0 := hA0
  rw [show w.heap.size = w0.heap.size from hw0 ▸ rfl]
  rw [show Fr w = Fr w0 from hw0 ▸ rfl]
  clear hw0
  obtain ⟨A, hAe⟩ : ∃ A, A = A0 := ⟨_, rfl⟩
  have hAA : ∀ b o, A0 b o → A b o := fun b o h => hAe ▸ h
  replace hA : AvOK A w := hAe ▸ hA
  have hO : IniOK [] A w := IniOK.nil
  refine calls_of_HT2 [.tmp 2] Try.func17 Try.ntmps17 (by decide) rfl rfl (Nat.le_of_ble_eq_true rfl) ?_
  intro R hR
  have f_v0 : Rep (eSl eStr) A w v0 p0 := hAe ▸ h0
  replace h0 : R 0 = v0 := hR 0 _ rfl
  clear hR hAe
  refine HT.seq ?_
  refine HT.text (l := ⟨_, true, .any⟩ :: []) (tl := []) (by kernel_rfl) (by kernel_rfl) (by kernel_rfl) ?_ ?_
  · exact
      Obls.cons (Obl.plain rfl rfl fun R' w' hw hs hd => by exact of_assign trivial) <|
      Obls.nil
  intro R w hw hs hF'
  replace h0 : R 0 = v0 := (hs 0 rfl).trans h0
  replace f_v0 := f_v0.fr hw
  replace hO := hO.fr hw
  replace hA := hA.fr hw.size
  replace hF := hF.trans hw
  clear hs hF' hw
  refine seqR_nil ?_
  refine HT.seq ?_
  obtain ⟨e1, hr⟩ := ck_some hr
  refine HT.textR [] (⟨_, true, [], none, true, fun A => .raw v0⟩ :: ⟨_, true, [], none, true, fun A => .raw (.int .i64 (p0.length : Int))⟩ :: ⟨_, true, [], some (.vec w0.heap.size 9 eStr (List.replicate (p0.length : Int).toNat ([] : List UInt8))), true, fun A => .any⟩ :: ⟨_, true, [2], some (.vec w0.heap.size 9 eStr (List.replicate (p0.length : Int).toNat ([] : List UInt8))), true, fun A => .any⟩ :: []) (by kernel_rfl) (by kernel_rfl) (Wf.mk' (by kernel_rfl) (UAll.cons ust_raw (UAll.cons ust_raw (UAll.cons ust_any (UAll.cons ust_any (UAll.nil))))) (by kernel_rfl) (by kernel_rfl)) hO hA ?_ ?_
  · exact
      OblsR.cons (OblR.plain rfl rfl rfl rfl fun A' R' w' ho hd => by have a0 : R' 0 = v0 := (ho.old 0 rfl).trans h0; exact of_move a0) <|
      OblsR.cons (OblR.plain rfl rfl rfl rfl fun A' R' w' ho hd => by have a0 : R' 5 = v0 := hd 0 _ _ _ rfl rfl rfl rfl rfl; have ra0 := (f_v0.stp ho.stp).eq a0; exact of_len_sl (aT := #[]) ra0 Try.underlying23) <|
      OblsR.cons (OblR.made _ rfl rfl rfl rfl fun A' R' w' ho hd => by have a0 : R' 6 = .int .i64 (p0.length : Int) := hd 0 _ _ _ rfl rfl rfl rfl rfl; have a1 : R' 6 = .int .i64 (p0.length : Int) := hd 0 _ _ _ rfl rfl rfl rfl rfl; exact made_make a0 a1 e1 Try.underlying23 el_9 Try.zeroValue9 (fun A w => (rep1_str rfl (by decide))) (Nat.le_trans hF.size ho.ch.size)) <|
      OblsR.cons (OblR.took 2 _ _ rfl rfl rfl rfl rfl fun A' R' w' ho hd u hok hav hin hop hds => by exact took_assign (hop _ _ rfl rfl rfl rfl).symm hok hav) <|
      OblsR.nil
  intro done ρ σ A R w hdn hI
  replace h0 : R 0 = v0 := (hI.reg rfl).trans h0
  obtain ⟨u2, e_u2⟩ : ∃ u, ρ 3 = u := ⟨_, rfl⟩
  have h3 : R 3 = u2 := (hI.opvR hdn 3 3 rfl rfl rfl rfl rfl).symm.trans e_u2
  replace f_v0 := f_v0.stp hI.stp
  replace hAA := hI.low' hAA hA0 (hO.ge (trivial))
  replace hF : Fr w0 w := hF.tr hI.ch (hO.ge (trivial))
  replace hO : IniOK [ob u2 (.vec w0.heap.size 9 eStr (List.replicate (p0.length : Int).toNat ([] : List UInt8)))] A w := hI.left hdn [(3, ob u2 (.vec w0.heap.size 9 eStr (List.replicate (p0.length : Int).toNat ([] : List UInt8))))] ⟨rfl, rfl, e_u2, rfl, rfl, trivial⟩
  replace hA := hI.avok
  clear hI
  refine HT.seq ?_
  refine HT.seq ?_
  refine HT.text (l := ⟨_, true, .raw (.int .i64 (0 : Int))⟩ :: []) (tl := []) (by kernel_rfl) (by kernel_rfl) (by kernel_rfl) ?_ ?_
  · exact
      Obls.cons (Obl.plain rfl rfl fun R' w' hw hs hd => by exact of_assign rfl) <|
      Obls.nil
  intro R w hw hs hF'
  replace h0 : R 0 = v0 := (hs 0 rfl).trans h0
  replace h3 : R 3 = u2 := (hs 3 rfl).trans h3
  have h4 : R 4 = .int .i64 (0 : Int) := hF' 0 _ _ rfl rfl rfl
  replace f_v0 := f_v0.fr hw
  replace hO := hO.fr hw
  replace hA := hA.fr hw.size
  replace hF := hF.trans hw
  clear hs hF' hw
  refine seqR_nil ?_
  obtain ⟨rl3, q4, hr⟩ := cl_some hr
  replace q4 := q4 rfl
  refine HT.cut0 (fun R w => ∃ A : Av, ∃ (s5 : (List (List UInt8))), rl3 = s5 ∧ AvOK A w ∧ Fr w0 w ∧ (∀ b o, A0 b o → A b o) ∧ IniOK [ob u2 (.vec w0.heap.size 9 eStr s5)] A w ∧ R 3 = u2) ?_ ?_
  · refine HT.block ?_
    refine HT.loop (fun k R w => ∃ A : Av, ∃ (y6 : Int) (y7 : List (List UInt8)), M_laws_toStringS_L0 fu p0 k y6 y7 = some rl3 ∧ AvOK A w ∧ Fr w0 w ∧ (∀ b o, A0 b o → A b o) ∧ IniOK [ob u2 (.vec w0.heap.size 9 eStr y7)] A w ∧ R 0 = v0 ∧ R 3 = u2 ∧ R 4 = .int .i64 y6 ∧ Rep (eSl eStr) A w v0 p0) fu ⟨_, _, _, q4, hA, hF, hAA, hO, h0, h3, h4, f_v0⟩ ?_
    have hr0 := hr; clear hr q4
    rintro k R w ⟨A, y6, y7, hr, hA, hF, hAA, hO, h0, h3, h4, f_v0⟩
    rcases k with _ | k
    · cases (show none = some _ from hr)
    rw [M_laws_toStringS_L0] at hr
    refine HT.seq ?_
    refine HT.seq ?_
    refine HT.text (l := ⟨_, true, .raw (.int .i64 y6)⟩ :: ⟨_, true, .raw v0⟩ :: ⟨_, true, .raw (.int .i64 (p0.length : Int))⟩ :: ⟨_, true, .raw (.bool (decide (y6 < (p0.length : Int))))⟩ :: []) (tl := []) (by kernel_rfl) (by kernel_rfl) (by kernel_rfl) ?_ ?_
    · exact
        Obls.cons (Obl.plain rfl rfl fun R' w' hw hs hd => by have a0 : R' 4 = .int .i64 y6 := (hs 4 rfl).trans h4; exact of_move a0) <|
        Obls.cons (Obl.plain rfl rfl fun R' w' hw hs hd => by have a0 : R' 0 = v0 := (hs 0 rfl).trans h0; exact of_move a0) <|
        Obls.cons (Obl.plain rfl rfl fun R' w' hw hs hd => by have a0 : R' 9 = v0 := hd 0 _ _ _ rfl rfl rfl rfl rfl; have ra0 := (f_v0.fr hw).eq a0; exact of_len_sl (aT := #[]) ra0 Try.underlying23) <|
        Obls.cons (Obl.plain rfl rfl fun R' w' hw hs hd => by have a0 : R' 8 = .int .i64 y6 := hd 0 _ _ _ rfl rfl rfl rfl rfl; have a1 : R' 10 = .int .i64 (p0.length : Int) := hd 1 _ _ _ rfl rfl rfl rfl rfl; exact of_lss a0 a1) <|
        Obls.nil
    intro R w hw hs hF'
    replace h0 : R 0 = v0 := (hs 0 rfl).trans h0
    replace h3 : R 3 = u2 := (hs 3 rfl).trans h3
    replace h4 : R 4 = .int .i64 y6 := (hs 4 rfl).trans h4
    have h11 : R 11 = .bool (decide (y6 < (p0.length : Int))) := hF' 3 _ _ rfl rfl rfl
    replace f_v0 := f_v0.fr hw
    replace hO := hO.fr hw
    replace hA := hA.fr hw.size
    replace hF := hF.trans hw
    clear hs hF' hw
    refine seqR_nil ?_
    refine HT.cond (decide (y6 < (p0.length : Int))) h11 (fun c8 => ?_) (fun c8 => ?_)
    · have hr := cnd_t c8 hr
      refine HT.skip ?_
      refine HT.seq ?_
      refine HT.block ?_
      obtain ⟨e9, hr⟩ := ck_some hr
      obtain ⟨e10, hr⟩ := ck_some hr
      refine HT.textR [ob u2 (.vec w0.heap.size 9 eStr y7)] (⟨_, true, [], none, true, fun A => .raw u2⟩ :: ⟨_, true, [], none, true, fun A => .raw (.int .i64 y6)⟩ :: ⟨_, true, [], none, true, fun A => .raw v0⟩ :: ⟨_, true, [], none, true, fun A => .raw (.int .i64 y6)⟩ :: ⟨_, true, [], none, true, fun A => .qtr eStr A (gtD p0 y6)⟩ :: ⟨_, true, [], none, true, fun A => .rep eStr A (gtD p0 y6)⟩ :: ⟨_, true, [], none, true, fun A => .raw (vptr u2 (y6.toNat * 1))⟩ :: ⟨_, true, [0], some (.vec w0.heap.size 9 eStr (y7.set y6.toNat (gtD p0 y6))), false, fun A => .any⟩ :: []) (by kernel_rfl) (by kernel_rfl) (Wf.mk' (by kernel_rfl) (UAll.cons ust_raw (UAll.cons ust_raw (UAll.cons ust_raw (UAll.cons ust_raw (UAll.cons ust_qtr (UAll.cons ust_rep (UAll.cons ust_raw (UAll.cons ust_any (UAll.nil))))))))) (by kernel_rfl) (by kernel_rfl)) hO hA ?_ ?_
      · exact
          OblsR.cons (OblR.plain rfl rfl rfl rfl fun A' R' w' ho hd => by have a0 : R' 3 = u2 := (ho.old 3 rfl).trans h3; exact of_move a0) <|
          OblsR.cons (OblR.plain rfl rfl rfl rfl fun A' R' w' ho hd => by have a0 : R' 4 = .int .i64 y6 := (ho.old 4 rfl).trans h4; exact of_move a0) <|
          OblsR.cons (OblR.plain rfl rfl rfl rfl fun A' R' w' ho hd => by have a0 : R' 0 = v0 := (ho.old 0 rfl).trans h0; exact of_move a0) <|
          OblsR.cons (OblR.plain rfl rfl rfl rfl fun A' R' w' ho hd => by have a0 : R' 4 = .int .i64 y6 := (ho.old 4 rfl).trans h4; exact of_move a0) <|
          OblsR.cons (OblR.plain rfl rfl rfl rfl fun A' R' w' ho hd => by have a0 : R' 16 = v0 := hd 0 _ _ _ rfl rfl rfl rfl rfl; have a1 : R' 17 = .int .i64 y6 := hd 1 _ _ _ rfl rfl rfl rfl rfl; have ra0 := (f_v0.stp ho.stp).eq a0; exact of_indexAddr ra0 a1 Try.underlying23 Try.sizeOf9 e9) <|
          OblsR.cons (OblR.plain rfl rfl rfl rfl fun A' R' w' ho hd => by have a0 : QRep eStr A' w' (R' 18) (gtD p0 y6) := hd 0 _ _ _ rfl rfl rfl rfl rfl; exact (of_load a0.ptr Try.isAgg9 Try.sizeOf9)) <|
          OblsR.cons (OblR.plain rfl rfl rfl rfl fun A' R' w' ho hd => by have a0 : R' 14 = u2 := hd 0 _ _ _ rfl rfl rfl rfl rfl; have a1 : R' 15 = .int .i64 y6 := hd 1 _ _ _ rfl rfl rfl rfl rfl; exact of_indexAddr_vec (hO.ok 0 _ rfl).1 a0 a1 Try.underlying23 Try.sizeOf9 e10 rfl) <|
          OblsR.cons (OblR.took 0 _ _ rfl rfl rfl rfl rfl fun A' R' w' ho hd u hok hav hin hop hds => by have a0 : R' 20 = (vptr u2 (y6.toNat * 1)) := hd 0 _ _ _ rfl rfl rfl rfl rfl; have a1 : Rep eStr A' w' (R' 19) (gtD p0 y6) := hd 1 _ _ _ rfl rfl rfl rfl rfl; obtain rfl := hin _ rfl; exact took_vstore a1 hok hav a0 e10 rfl (FldS.id _) Try.sizeOf9 rfl) <|
          OblsR.nil
      intro done ρ σ A R w hdn hI
      replace h0 : R 0 = v0 := (hI.reg rfl).trans h0
      replace h3 : R 3 = u2 := (hI.reg rfl).trans h3
      replace h4 : R 4 = .int .i64 y6 := (hI.reg rfl).trans h4
      have z11 := hI.inivR 0 rfl
      have z12 := (hI.opnR hdn 8 7 rfl rfl rfl rfl rfl).trans z11
      replace f_v0 := f_v0.stp hI.stp
      replace hAA := hI.low' hAA hA0 (hO.ge (⟨rfl, trivial⟩))
      replace hF : Fr w0 w := hF.tr hI.ch (hO.ge (⟨rfl, trivial⟩))
      replace hO : IniOK [ob u2 (.vec w0.heap.size 9 eStr (y7.set y6.toNat (gtD p0 y6)))] A w := hI.left hdn [(8, ob u2 (.vec w0.heap.size 9 eStr (y7.set y6.toNat (gtD p0 y6))))] ⟨rfl, rfl, z12, rfl, rfl, trivial⟩
      replace hA := hI.avok
      clear hI
      obtain ⟨e13, hr⟩ := ck_some hr
      refine HT.text (l := ⟨_, true, .raw (.int .i64 y6)⟩ :: ⟨_, true, .raw (.int .i64 (y6 + (1 : Int)))⟩ :: ⟨_, true, .raw (.int .i64 (y6 + (1 : Int)))⟩ :: []) (tl := []) (by kernel_rfl) (by kernel_rfl) (by kernel_rfl) ?_ ?_
      · exact
          Obls.cons (Obl.plain rfl rfl fun R' w' hw hs hd => by have a0 : R' 4 = .int .i64 y6 := (hs 4 rfl).trans h4; exact of_move a0) <|
          Obls.cons (Obl.plain rfl rfl fun R' w' hw hs hd => by have a0 : R' 12 = .int .i64 y6 := hd 0 _ _ _ rfl rfl rfl rfl rfl; exact of_add a0 rfl e13) <|
          Obls.cons (Obl.plain rfl rfl fun R' w' hw hs hd => by have a0 : R' 13 = .int .i64 (y6 + (1 : Int)) := hd 0 _ _ _ rfl rfl rfl rfl rfl; exact of_assign a0) <|
          Obls.nil
      intro R w hw hs hF'
      replace h0 : R 0 = v0 := (hs 0 rfl).trans h0
      replace h3 : R 3 = u2 := (hs 3 rfl).trans h3
      have h4 : R 4 = .int .i64 (y6 + (1 : Int)) := hF' 2 _ _ rfl rfl rfl
      replace f_v0 := f_v0.fr hw
      replace hO := hO.fr hw
      replace hA := hA.fr hw.size
      replace hF := hF.trans hw
      clear hs hF' hw
      refine seqR_nil ?_
      exact Exists.intro k (And.intro (Nat.lt_succ_self k) ⟨_, _, _, hr, hA, hF, hAA, hO, h0, h3, h4, f_v0⟩)
    · have hr := cnd_f c8 hr
      refine HT.exit ?_
      obtain rfl := Option.some.inj hr
      exact Exists.intro _ ⟨_, rfl, hA, hF, hAA, hO, h3⟩
  rintro R w ⟨A, s5, es, hA, hF, hAA, hO, h3⟩
  obtain rfl := es.symm
  refine HT.seq ?_
  refine HT.text (l := ⟨_, true, .raw u2⟩ :: ⟨_, true, .raw u2⟩ :: []) (tl := []) (by kernel_rfl) (by kernel_rfl) (by kernel_rfl) ?_ ?_
  · exact
      Obls.cons (Obl.plain rfl rfl fun R' w' hw hs hd => by have a0 : R' 3 = u2 := (hs 3 rfl).trans h3; exact of_move a0) <|
      Obls.cons (Obl.plain rfl rfl fun R' w' hw hs hd => by have a0 : R' 21 = u2 := hd 0 _ _ _ rfl rfl rfl rfl rfl; exact of_assign a0) <|
      Obls.nil
  intro R w hw hs hF'
  have h2 : R 2 = u2 := hF' 1 _ _ rfl rfl rfl
  replace hO := hO.fr hw
  replace hA := hA.fr hw.size
  replace hF := hF.trans hw
  clear hs hF' hw
  refine seqR_nil ?_
  refine HT.ret ?_
  obtain rfl := Option.some.inj hr
  exact ⟨.inr rfl, [R 2], ⟨rfl, trivial⟩, (own_post (hO.ok 0 _ rfl) hAA h2), hF⟩
theorem M_laws_toStringS_okR {fu : Nat} {A0 : Av} {p0 : List (List UInt8)} {r : List (List UInt8)} (hr : M_laws_toStringS fu p0 = some r) {w : World} {v0 : Value} (hA : AvOK A0 w) (h0 : Rep (eSl eStr) A0 w v0 p0) :
    Calls Try.prog 17 #[v0] w fun e w' => ∃ v, e = .returned v ∧ (Rep (eSl eStr) A0 w' v r ∧ Fr w w') := by
  refine Calls.mono (M_laws_toStringS_ok hr hA h0) ?_
  rintro e w' ⟨v, he, hv, hf⟩
  exact ⟨v, he, vec_rep hv (fun b o h => .inl h) hA, hf⟩
def M_spec_l1In (fu : Nat) (p0 : Int) (p1 : Int) (p2 : Int) : Option Bool :=
  bd ((decide (p1 ≤ p0)) && (decide (p0 ≤ p2))) fun x1 =>
  some x1
set_option maxRecDepth 100000 in
set_option maxHeartbeats 4000000 in
theorem M_spec_l1In_ok {fu : Nat} {A : Av} {p0 : Int} {p1 : Int} {p2 : Int} {r : Bool} (hr : M_spec_l1In fu p0 p1 p2 = some r) {w : World} {v0 : Value} {v1 : Value} {v2 : Value} (hA : AvOK A w) (h0 : v0 = .int .i64 p0) (h1 : v1 = .int .i64 p1) (h2 : v2 = .int .i64 p2) :
    Calls Try.prog 79 #[v0, v1, v2] w fun e w' => ∃ v, e = .returned v ∧ (v = .bool r ∧ Fr w w') := by
  unfold M_spec_l1In at hr
  obtain ⟨w0, hw0⟩ : ∃ w0, w0 = w := ⟨_, rfl⟩
  have hF : Fr w0 w := hw0 ▸ Fr.refl _
  rw [show Fr w = Fr w0 from hw0 ▸ rfl]
  clear hw0
  refine calls_of_HT2 [.tmp 6] Try.func79 Try.ntmps79 (by decide) rfl rfl (Nat.le_of_ble_eq_true rfl) ?_
  intro R hR
  replace h0 : R 0 = .int .i64 p0 := (hR 0 _ rfl).trans h0
  replace h1 : R 1 = .int .i64 p1 := (hR 1 _ rfl).trans h1
  replace h2 : R 2 = .int .i64 p2 := (hR 2 _ rfl).trans h2
  clear hR
  refine HT.seq ?_
  refine HT.text (l := ⟨_, true, .raw (.bool false)⟩ :: []) (tl := []) (by kernel_rfl) (by kernel_rfl) (by kernel_rfl) ?_ ?_
  · exact
      Obls.cons (Obl.plain rfl rfl fun R' w' hw hs hd => by exact of_assign rfl) <|
      Obls.nil
  intro R w hw hs hF'
  replace h0 : R 0 = .int .i64 p0 := (hs 0 rfl).trans h0
  replace h1 : R 1 = .int .i64 p1 := (hs 1 rfl).trans h1
  replace h2 : R 2 = .int .i64 p2 := (hs 2 rfl).trans h2
  replace hA := hA.fr hw.size
  replace hF := hF.trans hw
  clear hs hF' hw
  refine seqR_nil ?_
  refine HT.seq ?_
  obtain ⟨x1, q2, hr⟩ := bd_some hr
  refine HT.text (l := ⟨_, true, .raw (.int .i64 p0)⟩ :: ⟨_, true, .raw (.int .i64 p1)⟩ :: ⟨_, true, .raw (.bool (decide (p1 ≤ p0)))⟩ :: ⟨_, true, .raw (.bool (decide (p1 ≤ p0)))⟩ :: ⟨_, (true && ((decide (p1 ≤ p0)) == true)), .raw (.int .i64 p0)⟩ :: ⟨_, (true && ((decide (p1 ≤ p0)) == true)), .raw (.int .i64 p2)⟩ :: ⟨_, (true && ((decide (p1 ≤ p0)) == true)), .raw (.bool (decide (p0 ≤ p2)))⟩ :: ⟨_, true, .raw (.bool x1)⟩ :: ⟨_, true, .raw (.bool x1)⟩ :: []) (tl := []) (by kernel_rfl) (by kernel_rfl) (by kernel_rfl) ?_ ?_
  · exact
      Obls.cons (Obl.plain rfl rfl fun R' w' hw hs hd => by have a0 : R' 0 = .int .i64 p0 := (hs 0 rfl).trans h0; exact of_move a0) <|
      Obls.cons (Obl.plain rfl rfl fun R' w' hw hs hd => by have a0 : R' 1 = .int .i64 p1 := (hs 1 rfl).trans h1; exact of_move a0) <|
      Obls.cons (Obl.plain rfl rfl fun R' w' hw hs hd => by have a0 : R' 7 = .int .i64 p0 := hd 0 _ _ _ rfl rfl rfl rfl rfl; have a1 : R' 8 = .int .i64 p1 := hd 1 _ _ _ rfl rfl rfl rfl rfl; exact of_geq a0 a1) <|
      Obls.cons (Obl.plain rfl rfl fun R' w' hw hs hd => by have a0 : R' 9 = .bool (decide (p1 ≤ p0)) := hd 0 _ _ _ rfl rfl rfl rfl rfl; exact of_move a0) <|
      Obls.cons (Obl.grd 3 true _ _ _ rfl rfl rfl rfl rfl (by kernel_rfl) fun hg R' w' hw hs hd => by have a0 : R' 0 = .int .i64 p0 := (hs 0 rfl).trans h0; exact of_move a0) <|
      Obls.cons (Obl.grd 3 true _ _ _ rfl rfl rfl rfl rfl (by kernel_rfl) fun hg R' w' hw hs hd => by have a0 : R' 2 = .int .i64 p2 := (hs 2 rfl).trans h2; exact of_move a0) <|
      Obls.cons (Obl.grd 3 true _ _ _ rfl rfl rfl rfl rfl (by kernel_rfl) fun hg R' w' hw hs hd => by have a0 : R' 11 = .int .i64 p0 := hd 0 _ _ _ rfl rfl rfl rfl hg; have a1 : R' 12 = .int .i64 p2 := hd 1 _ _ _ rfl rfl rfl rfl hg; exact of_leq a0 a1) <|
      Obls.cons (Obl.plain rfl rfl fun R' w' hw hs hd => by have a0 : R' 10 = .bool (decide (p1 ≤ p0)) := hd 0 _ _ _ rfl rfl rfl rfl rfl; exact of_pick (decide (p1 ≤ p0)) a0 (fun hc => by have a1 : R' 13 = .bool (decide (p0 ≤ p2)) := hd 1 _ _ _ rfl rfl rfl rfl (g_and rfl (beq_of hc)); show _ = Value.bool x1; rw [q2, hc]; exact a1) (fun hc => by show _ = Value.bool x1; rw [q2, hc]; exact rfl)) <|
      Obls.cons (Obl.plain rfl rfl fun R' w' hw hs hd => by have a0 : R' 14 = .bool x1 := hd 0 _ _ _ rfl rfl rfl rfl rfl; exact of_assign a0) <|
      Obls.nil
  intro R w hw hs hF'
  have h6 : R 6 = .bool x1 := hF' 8 _ _ rfl rfl rfl
  replace hA := hA.fr hw.size
  replace hF := hF.trans hw
  clear hs hF' hw
  refine seqR_nil ?_
  refine HT.ret ?_
  obtain rfl := Option.some.inj hr
  exact ⟨.inr rfl, [R 6], ⟨rfl, trivial⟩, h6, hF⟩
def M_spec_l5Good (fu : Nat) (p0 : Int) (p1 : Int) (p2 : Int) : Option Bool :=
  cl true (M_spec_l1In fu p0 (0 : Int) (1000 : Int)) fun x1 =>
  cl (true && (x1 == true)) (M_spec_l1In fu p1 (0 : Int) (1000 : Int)) fun x3 =>
  bd (x1 && x3) fun x5 =>
  cl (true && (x5 == true)) (M_spec_l1In fu p2 (1 : Int) (1000 : Int)) fun x7 =>
  bd (x5 && x7) fun x9 =>
  some x9
set_option maxRecDepth 100000 in
set_option maxHeartbeats 4000000 in
theorem M_spec_l5Good_ok {fu : Nat} {A : Av} {p0 : Int} {p1 : Int} {p2 : Int} {r : Bool} (hr : M_spec_l5Good fu p0 p1 p2 = some r) {w : World} {v0 : Value} {v1 : Value} {v2 : Value} (hA : AvOK A w) (h0 : v0 = .int .i64 p0) (h1 : v1 = .int .i64 p1) (h2 : v2 = .int .i64 p2) :
    Calls Try.prog 106 #[v0, v1, v2] w fun e w' => ∃ v, e = .returned v ∧ (v = .bool r ∧ Fr w w') := by
  unfold M_spec_l5Good at hr
  obtain ⟨w0, hw0⟩ : ∃ w0, w0 = w := ⟨_, rfl⟩
  have hF : Fr w0 w := hw0 ▸ Fr.refl _
  rw [show Fr w = Fr w0 from hw0 ▸ rfl]
  clear hw0
  refine calls_of_HT2 [.tmp 6] Try.func106 Try.ntmps106 (by decide) rfl rfl (Nat.le_of_ble_eq_true rfl) ?_
  intro R hR
  replace h0 : R 0 = .int .i64 p0 := (hR 0 _ rfl).trans h0
  replace h1 : R 1 = .int .i64 p1 := (hR 1 _ rfl).trans h1
  replace h2 : R 2 = .int .i64 p2 := (hR 2 _ rfl).trans h2
  clear hR
  refine HT.seq ?_
  refine HT.text (l := ⟨_, true, .raw (.bool false)⟩ :: []) (tl := []) (by kernel_rfl) (by kernel_rfl) (by kernel_rfl) ?_ ?_
  · exact
      Obls.cons (Obl.plain rfl rfl fun R' w' hw hs hd => by exact of_assign rfl) <|
      Obls.nil
  intro R w hw hs hF'
  replace h0 : R 0 = .int .i64 p0 := (hs 0 rfl).trans h0
  replace h1 : R 1 = .int .i64 p1 := (hs 1 rfl).trans h1
  replace h2 : R 2 = .int .i64 p2 := (hs 2 rfl).trans h2
  replace hA := hA.fr hw.size
  replace hF := hF.trans hw
  clear hs hF' hw
  refine seqR_nil ?_
  refine HT.seq ?_
  obtain ⟨x1, q2, hr⟩ := cl_some hr
  obtain ⟨x3, q4, hr⟩ := cl_some hr
  obtain ⟨x5, q6, hr⟩ := bd_some hr
  obtain ⟨x7, q8, hr⟩ := cl_some hr
  obtain ⟨x9, q10, hr⟩ := bd_some hr
  refine HT.text (l := ⟨_, true, .raw (.int .i64 p0)⟩ :: ⟨_, true, .raw (.bool x1)⟩ :: ⟨_, true, .raw (.bool x1)⟩ :: ⟨_, (true && (x1 == true)), .raw (.int .i64 p1)⟩ :: ⟨_, (true && (x1 == true)), .raw (.bool x3)⟩ :: ⟨_, true, .raw (.bool x5)⟩ :: ⟨_, true, .raw (.bool x5)⟩ :: ⟨_, (true && (x5 == true)), .raw (.int .i64 p2)⟩ :: ⟨_, (true && (x5 == true)), .raw (.bool x7)⟩ :: ⟨_, true, .raw (.bool x9)⟩ :: ⟨_, true, .raw (.bool x9)⟩ :: []) (tl := []) (by kernel_rfl) (by kernel_rfl) (by kernel_rfl) ?_ ?_
  · exact
      Obls.cons (Obl.plain rfl rfl fun R' w' hw hs hd => by have a0 : R' 0 = .int .i64 p0 := (hs 0 rfl).trans h0; exact of_move a0) <|
      Obls.cons (Obl.plain rfl rfl fun R' w' hw hs hd => by have a0 : R' 7 = .int .i64 p0 := hd 0 _ _ _ rfl rfl rfl rfl rfl; exact of_call Try.call79 (M_spec_l1In_ok (q2 rfl) (hA.fr hw.size) a0 rfl rfl)) <|
      Obls.cons (Obl.plain rfl rfl fun R' w' hw hs hd => by have a0 : R' 8 = .bool x1 := hd 0 _ _ _ rfl rfl rfl rfl rfl; exact of_move a0) <|
      Obls.cons (Obl.grd 2 true _ _ _ rfl rfl rfl rfl rfl (by kernel_rfl) fun hg R' w' hw hs hd => by have a0 : R' 1 = .int .i64 p1 := (hs 1 rfl).trans h1; exact of_move a0) <|
      Obls.cons (Obl.grd 2 true _ _ _ rfl rfl rfl rfl rfl (by kernel_rfl) fun hg R' w' hw hs hd => by have a0 : R' 10 = .int .i64 p1 := hd 0 _ _ _ rfl rfl rfl rfl hg; exact of_call Try.call79 (M_spec_l1In_ok (q4 hg) (hA.fr hw.size) a0 rfl rfl)) <|
      Obls.cons (Obl.plain rfl rfl fun R' w' hw hs hd => by have a0 : R' 9 = .bool x1 := hd 0 _ _ _ rfl rfl rfl rfl rfl; exact of_pick x1 a0 (fun hc => by have a1 : R' 11 = .bool x3 := hd 1 _ _ _ rfl rfl rfl rfl (g_and rfl (beq_of hc)); show _ = Value.bool x5; rw [q6, hc]; exact a1) (fun hc => by show _ = Value.bool x5; rw [q6, hc]; exact rfl)) <|
      Obls.cons (Obl.plain rfl rfl fun R' w' hw hs hd => by have a0 : R' 12 = .bool x5 := hd 0 _ _ _ rfl rfl rfl rfl rfl; exact of_move a0) <|
      Obls.cons (Obl.grd 6 true _ _ _ rfl rfl rfl rfl rfl (by kernel_rfl) fun hg R' w' hw hs hd => by have a0 : R' 2 = .int .i64 p2 := (hs 2 rfl).trans h2; exact of_move a0) <|
      Obls.cons (Obl.grd 6 true _ _ _ rfl rfl rfl rfl rfl (by kernel_rfl) fun hg R' w' hw hs hd => by have a0 : R' 14 = .int .i64 p2 := hd 0 _ _ _ rfl rfl rfl rfl hg; exact of_call Try.call79 (M_spec_l1In_ok (q8 hg) (hA.fr hw.size) a0 rfl rfl)) <|
      Obls.cons (Obl.plain rfl rfl fun R' w' hw hs hd => by have a0 : R' 13 = .bool x5 := hd 0 _ _ _ rfl rfl rfl rfl rfl; exact of_pick x5 a0 (fun hc => by have a1 : R' 15 = .bool x7 := hd 1 _ _ _ rfl rfl rfl rfl (g_and rfl (beq_of hc)); show _ = Value.bool x9; rw [q10, hc]; exact a1) (fun hc => by show _ = Value.bool x9; rw [q10, hc]; exact rfl)) <|
      Obls.cons (Obl.plain rfl rfl fun R' w' hw hs hd => by have a0 : R' 16 = .bool x9 := hd 0 _ _ _ rfl rfl rfl rfl rfl; exact of_assign a0) <|
      Obls.nil
  intro R w hw hs hF'
  have h6 : R 6 = .bool x9 := hF' 10 _ _ rfl rfl rfl
  replace hA := hA.fr hw.size
  replace hF := hF.trans hw
  clear hs hF' hw
  refine seqR_nil ?_
  refine HT.ret ?_
  obtain rfl := Option.some.inj hr
  exact ⟨.inr rfl, [R 6], ⟨rfl, trivial⟩, h6, hF⟩
def M_spec_LengthBounds (fu : Nat) (p0 : Int) (p1 : Int) : Option (Int × Int) :=
  cl true (M_spec_l5Good fu p0 (0 : Int) p1) fun x1 =>
  bif (!x1) then (
    some ((-1 : Int), (-1 : Int))
  ) else (
    ck (i64B (p0 * p1)) <|
    ck (i64B ((p0 * p1) + (999 : Int))) <|
    ck ((1000 : Int) != 0) <|
    ck (i64B (((p0 * p1) + (999 : Int)).tdiv (1000 : Int))) <|
    ck (i64B (p0 * (1000 : Int))) <|
    ck (p1 != 0) <|
    ck (i64B ((p0 * (1000 : Int)).tdiv p1)) <|
    some ((((p0 * p1) + (999 : Int)).tdiv (1000 : Int)), ((p0 * (1000 : Int)).tdiv p1))
  )
set_option maxRecDepth 100000 in
set_option maxHeartbeats 4000000 in
theorem M_spec_LengthBounds_ok {fu : Nat} {A : Av} {p0 : Int} {p1 : Int} {r : Int × Int} (hr : M_spec_LengthBounds fu p0 p1 = some r) {w : World} {v0 : Value} {v1 : Value} (hA : AvOK A w) (h0 : v0 = .int .i64 p0) (h1 : v1 = .int .i64 p1) :
    Calls Try.prog 107 #[v0, v1] w fun e w' => ∃ v, e = .returned v ∧ ((∃ a b, v = .tuple #[a, b] ∧ a = .int .i64 r.1 ∧ b = .int .i64 r.2) ∧ Fr w w') := by
  unfold M_spec_LengthBounds at hr
  obtain ⟨w0, hw0⟩ : ∃ w0, w0 = w := ⟨_, rfl⟩
  have hF : Fr w0 w := hw0 ▸ Fr.refl _
  rw [show Fr w = Fr w0 from hw0 ▸ rfl]
  clear hw0
  refine calls_of_HT2 [.tmp 4, .tmp 5] Try.func107 Try.ntmps107 (by decide) rfl rfl (Nat.le_of_ble_eq_true rfl) ?_
  intro R hR
  replace h0 : R 0 = .int .i64 p0 := (hR 0 _ rfl).trans h0
  replace h1 : R 1 = .int .i64 p1 := (hR 1 _ rfl).trans h1
  clear hR
  refine HT.seq ?_
  refine HT.text (l := ⟨_, true, .raw (.int .i64 (0 : Int))⟩ :: ⟨_, true, .raw (.int .i64 (0 : Int))⟩ :: []) (tl := []) (by kernel_rfl) (by kernel_rfl) (by kernel_rfl) ?_ ?_
  · exact
      Obls.cons (Obl.plain rfl rfl fun R' w' hw hs hd => by exact of_assign rfl) <|
      Obls.cons (Obl.plain rfl rfl fun R' w' hw hs hd => by exact of_assign rfl) <|
      Obls.nil
  intro R w hw hs hF'
  replace h0 : R 0 = .int .i64 p0 := (hs 0 rfl).trans h0
  replace h1 : R 1 = .int .i64 p1 := (hs 1 rfl).trans h1
  replace hA := hA.fr hw.size
  replace hF := hF.trans hw
  clear hs hF' hw
  refine seqR_nil ?_
  refine HT.seq ?_
  refine HT.seq ?_
  obtain ⟨x1, q2, hr⟩ := cl_some hr
  refine HT.text (l := ⟨_, true, .raw (.int .i64 p0)⟩ :: ⟨_, true, .raw (.int .i64 p1)⟩ :: ⟨_, true, .raw (.bool x1)⟩ :: ⟨_, true, .raw (.bool (!x1))⟩ :: []) (tl := []) (by kernel_rfl) (by kernel_rfl) (by kernel_rfl) ?_ ?_
  · exact
      Obls.cons (Obl.plain rfl rfl fun R' w' hw hs hd => by have a0 : R' 0 = .int .i64 p0 := (hs 0 rfl).trans h0; exact of_move a0) <|
      Obls.cons (Obl.plain rfl rfl fun R' w' hw hs hd => by have a0 : R' 1 = .int .i64 p1 := (hs 1 rfl).trans h1; exact of_move a0) <|
      Obls.cons (Obl.plain rfl rfl fun R' w' hw hs hd => by have a0 : R' 6 = .int .i64 p0 := hd 0 _ _ _ rfl rfl rfl rfl rfl; have a2 : R' 7 = .int .i64 p1 := hd 1 _ _ _ rfl rfl rfl rfl rfl; exact of_call Try.call106 (M_spec_l5Good_ok (q2 rfl) (hA.fr hw.size) a0 rfl a2)) <|
      Obls.cons (Obl.plain rfl rfl fun R' w' hw hs hd => by have a0 : R' 8 = .bool x1 := hd 0 _ _ _ rfl rfl rfl rfl rfl; exact of_not a0) <|
      Obls.nil
  intro R w hw hs hF'
  replace h0 : R 0 = .int .i64 p0 := (hs 0 rfl).trans h0
  replace h1 : R 1 = .int .i64 p1 := (hs 1 rfl).trans h1
  have h9 : R 9 = .bool (!x1) := hF' 3 _ _ rfl rfl rfl
  replace hA := hA.fr hw.size
  replace hF := hF.trans hw
  clear hs hF' hw
  refine seqR_nil ?_
  refine HT.cond (!x1) h9 (fun c3 => ?_) (fun c3 => ?_)
  · have hr := cnd_t c3 hr
    refine HT.seq ?_
    refine HT.text (l := ⟨_, true, .raw (.int .i64 (-1 : Int))⟩ :: ⟨_, true, .raw (.int .i64 (-1 : Int))⟩ :: []) (tl := []) (by kernel_rfl) (by kernel_rfl) (by kernel_rfl) ?_ ?_
    · exact
        Obls.cons (Obl.plain rfl rfl fun R' w' hw hs hd => by exact of_assign rfl) <|
        Obls.cons (Obl.plain rfl rfl fun R' w' hw hs hd => by exact of_assign rfl) <|
        Obls.nil
    intro R w hw hs hF'
    have h4 : R 4 = .int .i64 (-1 : Int) := hF' 0 _ _ rfl rfl rfl
    have h5 : R 5 = .int .i64 (-1 : Int) := hF' 1 _ _ rfl rfl rfl
    replace hA := hA.fr hw.size
    replace hF := hF.trans hw
    clear hs hF' hw
    refine seqR_nil ?_
    refine HT.ret ?_
    obtain rfl := Option.some.inj hr
    exact ⟨.inr rfl, [R 4, R 5], ⟨rfl, ⟨rfl, trivial⟩⟩, ⟨_, _, rfl, h4, h5⟩, hF⟩
  · have hr := cnd_f c3 hr
    refine HT.skip ?_
    refine HT.seq ?_
    obtain ⟨e4, hr⟩ := ck_some hr
    obtain ⟨e5, hr⟩ := ck_some hr
    obtain ⟨e6, hr⟩ := ck_some hr
    obtain ⟨e7, hr⟩ := ck_some hr
    obtain ⟨e8, hr⟩ := ck_some hr
    obtain ⟨e9, hr⟩ := ck_some hr
    obtain ⟨e10, hr⟩ := ck_some hr
    refine HT.draw (by kernel_rfl) (l := ⟨_, true, .raw (.int .i64 p0)⟩ :: ⟨_, true, .raw (.int .i64 p1)⟩ :: ⟨_, true, .raw (.int .i64 (p0 * p1))⟩ :: ⟨_, true, .raw (.int .i64 ((p0 * p1) + (999 : Int)))⟩ :: ⟨_, true, .raw (.int .i64 (((p0 * p1) + (999 : Int)).tdiv (1000 : Int)))⟩ :: ⟨_, true, .raw (.int .i64 p0)⟩ :: ⟨_, true, .raw (.int .i64 (p0 * (1000 : Int)))⟩ :: ⟨_, true, .raw (.int .i64 p1)⟩ :: ⟨_, true, .raw (.int .i64 ((p0 * (1000 : Int)).tdiv p1))⟩ :: ⟨_, true, .raw (.int .i64 (((p0 * p1) + (999 : Int)).tdiv (1000 : Int)))⟩ :: ⟨_, true, .raw (.int .i64 ((p0 * (1000 : Int)).tdiv p1))⟩ :: []) (tl := []) (by kernel_rfl) (by kernel_rfl) (by kernel_rfl) (by kernel_rfl) ?_ ?_
    · exact
        Obls.cons (Obl.plain rfl rfl fun R' w' hw hs hd => by have a0 : R' 0 = .int .i64 p0 := (hs 0 rfl).trans h0; exact of_move a0) <|
        Obls.cons (Obl.plain rfl rfl fun R' w' hw hs hd => by have a0 : R' 1 = .int .i64 p1 := (hs 1 rfl).trans h1; exact of_move a0) <|
        Obls.cons (Obl.plain rfl rfl fun R' w' hw hs hd => by have a0 : R' 10 = .int .i64 p0 := hd 0 _ _ _ rfl rfl rfl rfl rfl; have a1 : R' 11 = .int .i64 p1 := hd 1 _ _ _ rfl rfl rfl rfl rfl; exact of_mul a0 a1 e4) <|
        Obls.cons (Obl.plain rfl rfl fun R' w' hw hs hd => by have a0 : R' 12 = .int .i64 (p0 * p1) := hd 0 _ _ _ rfl rfl rfl rfl rfl; exact of_add a0 rfl e5) <|
        Obls.cons (Obl.plain rfl rfl fun R' w' hw hs hd => by have a0 : R' 13 = .int .i64 ((p0 * p1) + (999 : Int)) := hd 0 _ _ _ rfl rfl rfl rfl rfl; exact of_quo a0 rfl e6 e7) <|
        Obls.cons (Obl.plain rfl rfl fun R' w' hw hs hd => by have a0 : R' 0 = .int .i64 p0 := (hs 0 rfl).trans h0; exact of_move a0) <|
        Obls.cons (Obl.plain rfl rfl fun R' w' hw hs hd => by have a0 : R' 15 = .int .i64 p0 := hd 0 _ _ _ rfl rfl rfl rfl rfl; exact of_mul a0 rfl e8) <|
        Obls.cons (Obl.plain rfl rfl fun R' w' hw hs hd => by have a0 : R' 1 = .int .i64 p1 := (hs 1 rfl).trans h1; exact of_move a0) <|
        Obls.cons (Obl.plain rfl rfl fun R' w' hw hs hd => by have a0 : R' 16 = .int .i64 (p0 * (1000 : Int)) := hd 0 _ _ _ rfl rfl rfl rfl rfl; have a1 : R' 17 = .int .i64 p1 := hd 1 _ _ _ rfl rfl rfl rfl rfl; exact of_quo a0 a1 e9 e10) <|
        Obls.cons (Obl.plain rfl rfl fun R' w' hw hs hd => by have a0 : R' 14 = .int .i64 (((p0 * p1) + (999 : Int)).tdiv (1000 : Int)) := hd 0 _ _ _ rfl rfl rfl rfl rfl; exact of_assign a0) <|
        Obls.cons (Obl.plain rfl rfl fun R' w' hw hs hd => by have a0 : R' 18 = .int .i64 ((p0 * (1000 : Int)).tdiv p1) := hd 0 _ _ _ rfl rfl rfl rfl rfl; exact of_assign a0) <|
        Obls.nil
    intro R w hw hs hF'
    have h4 : R 4 = .int .i64 (((p0 * p1) + (999 : Int)).tdiv (1000 : Int)) := hF' 9 _ _ rfl rfl rfl
    have h5 : R 5 = .int .i64 ((p0 * (1000 : Int)).tdiv p1) := hF' 10 _ _ rfl rfl rfl
    replace hA := hA.fr hw.size
    replace hF := hF.trans hw
    clear hs hF' hw
    refine seqR_nil ?_
    refine HT.ret ?_
    obtain rfl := Option.some.inj hr
    exact ⟨.inr rfl, [R 4, R 5], ⟨rfl, ⟨rfl, trivial⟩⟩, ⟨_, _, rfl, h4, h5⟩, hF⟩
def M_spec_PrefixLength (fu : Nat) (p0 : Int) (p1 : Int) : Option Int :=
  cl true (M_spec_l5Good fu p0 (0 : Int) p1) fun x1 =>
  bif (!x1) then (
    some (-1 : Int)
  ) else (
    bif (p0 == (0 : Int)) then (
      some (0 : Int)
    ) else (
      cl true (M_spec_LengthBounds fu p0 p1) fun x5 =>
      ck (i64B (p0 - x5.1)) <|
      ck (i64B ((p0 - x5.1) + (1 : Int))) <|
      some ((p0 - x5.1) + (1 : Int))
    )
  )
set_option maxRecDepth 100000 in
set_option maxHeartbeats 4000000 in
theorem M_spec_PrefixLength_ok {fu : Nat} {A : Av} {p0 : Int} {p1 : Int} {r : Int} (hr : M_spec_PrefixLength fu p0 p1 = some r) {w : World} {v0 : Value} {v1 : Value} (hA : AvOK A w) (h0 : v0 = .int .i64 p0) (h1 : v1 = .int .i64 p1) :
    Calls Try.prog 74 #[v0, v1] w fun e w' => ∃ v, e = .returned v ∧ (v = .int .i64 r ∧ Fr w w') := by
  unfold M_spec_PrefixLength at hr
  obtain ⟨w0, hw0⟩ : ∃ w0, w0 = w := ⟨_, rfl⟩
  have hF : Fr w0 w := hw0 ▸ Fr.refl _
  rw [show Fr w = Fr w0 from hw0 ▸ rfl]
  clear hw0
  refine calls_of_HT2 [.tmp 4] Try.func74 Try.ntmps74 (by decide) rfl rfl (Nat.le_of_ble_eq_true rfl) ?_
  intro R hR
  replace h0 : R 0 = .int .i64 p0 := (hR 0 _ rfl).trans h0
  replace h1 : R 1 = .int .i64 p1 := (hR 1 _ rfl).trans h1
  clear hR
  refine HT.seq ?_
  refine HT.text (l := ⟨_, true, .raw (.int .i64 (0 : Int))⟩ :: []) (tl := []) (by kernel_rfl) (by kernel_rfl) (by kernel_rfl) ?_ ?_
  · exact
      Obls.cons (Obl.plain rfl rfl fun R' w' hw hs hd => by exact of_assign rfl) <|
      Obls.nil
  intro R w hw hs hF'
  replace h0 : R 0 = .int .i64 p0 := (hs 0 rfl).trans h0
  replace h1 : R 1 = .int .i64 p1 := (hs 1 rfl).trans h1
  replace hA := hA.fr hw.size
  replace hF := hF.trans hw
  clear hs hF' hw
  refine seqR_nil ?_
  refine HT.seq ?_
  refine HT.seq ?_
  obtain ⟨x1, q2, hr⟩ := cl_some hr
  refine HT.text (l := ⟨_, true, .raw (.int .i64 p0)⟩ :: ⟨_, true, .raw (.int .i64 p1)⟩ :: ⟨_, true, .raw (.bool x1)⟩ :: ⟨_, true, .raw (.bool (!x1))⟩ :: []) (tl := []) (by kernel_rfl) (by kernel_rfl) (by kernel_rfl) ?_ ?_
  · exact
      Obls.cons (Obl.plain rfl rfl fun R' w' hw hs hd => by have a0 : R' 0 = .int .i64 p0 := (hs 0 rfl).trans h0; exact of_move a0) <|
      Obls.cons (Obl.plain rfl rfl fun R' w' hw hs hd => by have a0 : R' 1 = .int .i64 p1 := (hs 1 rfl).trans h1; exact of_move a0) <|
      Obls.cons (Obl.plain rfl rfl fun R' w' hw hs hd => by have a0 : R' 7 = .int .i64 p0 := hd 0 _ _ _ rfl rfl rfl rfl rfl; have a2 : R' 8 = .int .i64 p1 := hd 1 _ _ _ rfl rfl rfl rfl rfl; exact of_call Try.call106 (M_spec_l5Good_ok (q2 rfl) (hA.fr hw.size) a0 rfl a2)) <|
      Obls.cons (Obl.plain rfl rfl fun R' w' hw hs hd => by have a0 : R' 9 = .bool x1 := hd 0 _ _ _ rfl rfl rfl rfl rfl; exact of_not a0) <|
      Obls.nil
  intro R w hw hs hF'
  replace h0 : R 0 = .int .i64 p0 := (hs 0 rfl).trans h0
  replace h1 : R 1 = .int .i64 p1 := (hs 1 rfl).trans h1
  have h10 : R 10 = .bool (!x1) := hF' 3 _ _ rfl rfl rfl
  replace hA := hA.fr hw.size
  replace hF := hF.trans hw
  clear hs hF' hw
  refine seqR_nil ?_
  refine HT.cond (!x1) h10 (fun c3 => ?_) (fun c3 => ?_)
  · have hr := cnd_t c3 hr
    refine HT.seq ?_
    refine HT.text (l := ⟨_, true, .raw (.int .i64 (-1 : Int))⟩ :: []) (tl := []) (by kernel_rfl) (by kernel_rfl) (by kernel_rfl) ?_ ?_
    · exact
        Obls.cons (Obl.plain rfl rfl fun R' w' hw hs hd => by exact of_assign rfl) <|
        Obls.nil
    intro R w hw hs hF'
    have h4 : R 4 = .int .i64 (-1 : Int) := hF' 0 _ _ rfl rfl rfl
    replace hA := hA.fr hw.size
    replace hF := hF.trans hw
    clear hs hF' hw
    refine seqR_nil ?_
    refine HT.ret ?_
    obtain rfl := Option.some.inj hr
    exact ⟨.inr rfl, [R 4], ⟨rfl, trivial⟩, h4, hF⟩
  · have hr := cnd_f c3 hr
    refine HT.skip ?_
    refine HT.seq ?_
    refine HT.seq ?_
    refine HT.text (l := ⟨_, true, .raw (.int .i64 p0)⟩ :: ⟨_, true, .raw (.bool (p0 == (0 : Int)))⟩ :: []) (tl := []) (by kernel_rfl) (by kernel_rfl) (by kernel_rfl) ?_ ?_
    · exact
        Obls.cons (Obl.plain rfl rfl fun R' w' hw hs hd => by have a0 : R' 0 = .int .i64 p0 := (hs 0 rfl).trans h0; exact of_move a0) <|
        Obls.cons (Obl.plain rfl rfl fun R' w' hw hs hd => by have a0 : R' 11 = .int .i64 p0 := hd 0 _ _ _ rfl rfl rfl rfl rfl; exact of_eql a0 rfl) <|
        Obls.nil
    intro R w hw hs hF'
    replace h0 : R 0 = .int .i64 p0 := (hs 0 rfl).trans h0
    replace h1 : R 1 = .int .i64 p1 := (hs 1 rfl).trans h1
    have h12 : R 12 = .bool (p0 == (0 : Int)) := hF' 1 _ _ rfl rfl rfl
    replace hA := hA.fr hw.size
    replace hF := hF.trans hw
    clear hs hF' hw
    refine seqR_nil ?_
    refine HT.cond (p0 == (0 : Int)) h12 (fun c4 => ?_) (fun c4 => ?_)
    · have hr := cnd_t c4 hr
      refine HT.seq ?_
      refine HT.text (l := ⟨_, true, .raw (.int .i64 (0 : Int))⟩ :: []) (tl := []) (by kernel_rfl) (by kernel_rfl) (by kernel_rfl) ?_ ?_
      · exact
          Obls.cons (Obl.plain rfl rfl fun R' w' hw hs hd => by exact of_assign rfl) <|
          Obls.nil
      intro R w hw hs hF'
      have h4 : R 4 = .int .i64 (0 : Int) := hF' 0 _ _ rfl rfl rfl
      replace hA := hA.fr hw.size
      replace hF := hF.trans hw
      clear hs hF' hw
      refine seqR_nil ?_
      refine HT.ret ?_
      obtain rfl := Option.some.inj hr
      exact ⟨.inr rfl, [R 4], ⟨rfl, trivial⟩, h4, hF⟩
    · have hr := cnd_f c4 hr
      refine HT.skip ?_
      refine HT.seq ?_
      obtain ⟨x5, q6, hr⟩ := cl_some hr
      refine HT.text (l := ⟨_, true, .raw (.int .i64 p0)⟩ :: ⟨_, true, .raw (.int .i64 p1)⟩ :: ⟨_, true, .tup2 (.raw (.int .i64 x5.1)) (.raw (.int .i64 x5.2))⟩ :: ⟨_, true, .tup2 (.raw (.int .i64 x5.1)) (.raw (.int .i64 x5.2))⟩ :: ⟨_, true, .raw (.int .i64 x5.1)⟩ :: ⟨_, true, .raw (.int .i64 x5.2)⟩ :: ⟨_, true, .raw (.int .i64 x5.1)⟩ :: ⟨_, true, .raw (.int .i64 x5.2)⟩ :: []) (tl := []) (by kernel_rfl) (by kernel_rfl) (by kernel_rfl) ?_ ?_
      · exact
          Obls.cons (Obl.plain rfl rfl fun R' w' hw hs hd => by have a0 : R' 0 = .int .i64 p0 := (hs 0 rfl).trans h0; exact of_move a0) <|
          Obls.cons (Obl.plain rfl rfl fun R' w' hw hs hd => by have a0 : R' 1 = .int .i64 p1 := (hs 1 rfl).trans h1; exact of_move a0) <|
          Obls.cons (Obl.plain rfl rfl fun R' w' hw hs hd => by have a0 : R' 14 = .int .i64 p0 := hd 0 _ _ _ rfl rfl rfl rfl rfl; have a1 : R' 15 = .int .i64 p1 := hd 1 _ _ _ rfl rfl rfl rfl rfl; exact of_call Try.call107 (M_spec_LengthBounds_ok (q6 rfl) (hA.fr hw.size) a0 a1)) <|
          Obls.cons (Obl.plain rfl rfl fun R' w' hw hs hd => by have a0 : Fact.ok (.tup2 (.raw (.int .i64 x5.1)) (.raw (.int .i64 x5.2))) (R' 16) w' := hd 0 _ _ _ rfl rfl rfl rfl rfl; exact of_move a0) <|
          Obls.cons (Obl.plain rfl rfl fun R' w' hw hs hd => by have a0 : Fact.ok (.tup2 (.raw (.int .i64 x5.1)) (.raw (.int .i64 x5.2))) (R' 13) w' := hd 0 _ _ _ rfl rfl rfl rfl rfl; exact of_extract2_0 a0) <|
          Obls.cons (Obl.plain rfl rfl fun R' w' hw hs hd => by have a0 : Fact.ok (.tup2 (.raw (.int .i64 x5.1)) (.raw (.int .i64 x5.2))) (R' 13) w' := hd 0 _ _ _ rfl rfl rfl rfl rfl; exact of_extract2_1 a0) <|
          Obls.cons (Obl.plain rfl rfl fun R' w' hw hs hd => by have a0 : R' 17 = .int .i64 x5.1 := hd 0 _ _ _ rfl rfl rfl rfl rfl; exact of_assign a0) <|
          Obls.cons (Obl.plain rfl rfl fun R' w' hw hs hd => by have a0 : R' 18 = .int .i64 x5.2 := hd 0 _ _ _ rfl rfl rfl rfl rfl; exact of_assign a0) <|
          Obls.nil
      intro R w hw hs hF'
      replace h0 : R 0 = .int .i64 p0 := (hs 0 rfl).trans h0
      have h5 : R 5 = .int .i64 x5.1 := hF' 6 _ _ rfl rfl rfl
      replace hA := hA.fr hw.size
      replace hF := hF.trans hw
      clear hs hF' hw
      refine seqR_nil ?_
      refine HT.seq ?_
      obtain ⟨e7, hr⟩ := ck_some hr
      obtain ⟨e8, hr⟩ := ck_some hr
      refine HT.text (l := ⟨_, true, .raw (.int .i64 p0)⟩ :: ⟨_, true, .raw (.int .i64 x5.1)⟩ :: ⟨_, true, .raw (.int .i64 (p0 - x5.1))⟩ :: ⟨_, true, .raw (.int .i64 ((p0 - x5.1) + (1 : Int)))⟩ :: ⟨_, true, .raw (.int .i64 ((p0 - x5.1) + (1 : Int)))⟩ :: []) (tl := []) (by kernel_rfl) (by kernel_rfl) (by kernel_rfl) ?_ ?_
      · exact
          Obls.cons (Obl.plain rfl rfl fun R' w' hw hs hd => by have a0 : R' 0 = .int .i64 p0 := (hs 0 rfl).trans h0; exact of_move a0) <|
          Obls.cons (Obl.plain rfl rfl fun R' w' hw hs hd => by have a0 : R' 5 = .int .i64 x5.1 := (hs 5 rfl).trans h5; exact of_move a0) <|
          Obls.cons (Obl.plain rfl rfl fun R' w' hw hs hd => by have a0 : R' 19 = .int .i64 p0 := hd 0 _ _ _ rfl rfl rfl rfl rfl; have a1 : R' 20 = .int .i64 x5.1 := hd 1 _ _ _ rfl rfl rfl rfl rfl; exact of_sub a0 a1 e7) <|
          Obls.cons (Obl.plain rfl rfl fun R' w' hw hs hd => by have a0 : R' 21 = .int .i64 (p0 - x5.1) := hd 0 _ _ _ rfl rfl rfl rfl rfl; exact of_add a0 rfl e8) <|
          Obls.cons (Obl.plain rfl rfl fun R' w' hw hs hd => by have a0 : R' 22 = .int .i64 ((p0 - x5.1) + (1 : Int)) := hd 0 _ _ _ rfl rfl rfl rfl rfl; exact of_assign a0) <|
          Obls.nil
      intro R w hw hs hF'
      have h4 : R 4 = .int .i64 ((p0 - x5.1) + (1 : Int)) := hF' 4 _ _ rfl rfl rfl
      replace hA := hA.fr hw.size
      replace hF := hF.trans hw
      clear hs hF' hw
      refine seqR_nil ?_
      refine HT.ret ?_
      obtain rfl := Option.some.inj hr
      exact ⟨.inr rfl, [R 4], ⟨rfl, trivial⟩, h4, hF⟩
def M_spec_l2Word (fu : Nat) (p0 : Int) : Option Bool :=
  bd ((decide ((97 : Int) ≤ p0)) && (decide (p0 ≤ (122 : Int)))) fun x1 =>
  bd ((decide ((65 : Int) ≤ p0)) && (decide (p0 ≤ (90 : Int)))) fun x3 =>
  bd (x1 || x3) fun x5 =>
  bd ((decide ((48 : Int) ≤ p0)) && (decide (p0 ≤ (57 : Int)))) fun x7 =>
  bd (x5 || x7) fun x9 =>
  some x9
set_option maxRecDepth 100000 in
set_option maxHeartbeats 4000000 in
theorem M_spec_l2Word_ok {fu : Nat} {A : Av} {p0 : Int} {r : Bool} (hr : M_spec_l2Word fu p0 = some r) {w : World} {v0 : Value} (hA : AvOK A w) (h0 : v0 = .int .u8 p0) :
    Calls Try.prog 108 #[v0] w fun e w' => ∃ v, e = .returned v ∧ (v = .bool r ∧ Fr w w') := by
  unfold M_spec_l2Word at hr
  obtain ⟨w0, hw0⟩ : ∃ w0, w0 = w := ⟨_, rfl⟩
  have hF : Fr w0 w := hw0 ▸ Fr.refl _
  rw [show Fr w = Fr w0 from hw0 ▸ rfl]
  clear hw0
  refine calls_of_HT2 [.tmp 2] Try.func108 Try.ntmps108 (by decide) rfl rfl (Nat.le_of_ble_eq_true rfl) ?_
  intro R hR
  replace h0 : R 0 = .int .u8 p0 := (hR 0 _ rfl).trans h0
  clear hR
  refine HT.seq ?_
  refine HT.text (l := ⟨_, true, .raw (.bool false)⟩ :: []) (tl := []) (by kernel_rfl) (by kernel_rfl) (by kernel_rfl) ?_ ?_
  · exact
      Obls.cons (Obl.plain rfl rfl fun R' w' hw hs hd => by exact of_assign rfl) <|
      Obls.nil
  intro R w hw hs hF'
  replace h0 : R 0 = .int .u8 p0 := (hs 0 rfl).trans h0
  replace hA := hA.fr hw.size
  replace hF := hF.trans hw
  clear hs hF' hw
  refine seqR_nil ?_
  refine HT.seq ?_
  obtain ⟨x1, q2, hr⟩ := bd_some hr
  obtain ⟨x3, q4, hr⟩ := bd_some hr
  obtain ⟨x5, q6, hr⟩ := bd_some hr
  obtain ⟨x7, q8, hr⟩ := bd_some hr
  obtain ⟨x9, q10, hr⟩ := bd_some hr
  refine HT.text (l := ⟨_, true, .raw (.int .u8 p0)⟩ :: ⟨_, true, .raw (.bool (decide ((97 : Int) ≤ p0)))⟩ :: ⟨_, true, .raw (.bool (decide ((97 : Int) ≤ p0)))⟩ :: ⟨_, (true && ((decide ((97 : Int) ≤ p0)) == true)), .raw (.int .u8 p0)⟩ :: ⟨_, (true && ((decide ((97 : Int) ≤ p0)) == true)), .raw (.bool (decide (p0 ≤ (122 : Int))))⟩ :: ⟨_, true, .raw (.bool x1)⟩ :: ⟨_, true, .raw (.bool x1)⟩ :: ⟨_, (true && (x1 == false)), .raw (.int .u8 p0)⟩ :: ⟨_, (true && (x1 == false)), .raw (.bool (decide ((65 : Int) ≤ p0)))⟩ :: ⟨_, (true && (x1 == false)), .raw (.bool (decide ((65 : Int) ≤ p0)))⟩ :: ⟨_, ((true && (x1 == false)) && ((decide ((65 : Int) ≤ p0)) == true)), .raw (.int .u8 p0)⟩ :: ⟨_, ((true && (x1 == false)) && ((decide ((65 : Int) ≤ p0)) == true)), .raw (.bool (decide (p0 ≤ (90 : Int))))⟩ :: ⟨_, (true && (x1 == false)), .raw (.bool x3)⟩ :: ⟨_, true, .raw (.bool x5)⟩ :: ⟨_, true, .raw (.bool x5)⟩ :: ⟨_, (true && (x5 == false)), .raw (.int .u8 p0)⟩ :: ⟨_, (true && (x5 == false)), .raw (.bool (decide ((48 : Int) ≤ p0)))⟩ :: ⟨_, (true && (x5 == false)), .raw (.bool (decide ((48 : Int) ≤ p0)))⟩ :: ⟨_, ((true && (x5 == false)) && ((decide ((48 : Int) ≤ p0)) == true)), .raw (.int .u8 p0)⟩ :: ⟨_, ((true && (x5 == false)) && ((decide ((48 : Int) ≤ p0)) == true)), .raw (.bool (decide (p0 ≤ (57 : Int))))⟩ :: ⟨_, (true && (x5 == false)), .raw (.bool x7)⟩ :: ⟨_, true, .raw (.bool x9)⟩ :: ⟨_, true, .raw (.bool x9)⟩ :: []) (tl := []) (by kernel_rfl) (by kernel_rfl) (by kernel_rfl) ?_ ?_
  · exact
      Obls.cons (Obl.plain rfl rfl fun R' w' hw hs hd => by have a0 : R' 0 = .int .u8 p0 := (hs 0 rfl).trans h0; exact of_move a0) <|
      Obls.cons (Obl.plain rfl rfl fun R' w' hw hs hd => by have a0 : R' 3 = .int .u8 p0 := hd 0 _ _ _ rfl rfl rfl rfl rfl; exact of_geq a0 rfl) <|
      Obls.cons (Obl.plain rfl rfl fun R' w' hw hs hd => by have a0 : R' 4 = .bool (decide ((97 : Int) ≤ p0)) := hd 0 _ _ _ rfl rfl rfl rfl rfl; exact of_move a0) <|
      Obls.cons (Obl.grd 2 true _ _ _ rfl rfl rfl rfl rfl (by kernel_rfl) fun hg R' w' hw hs hd => by have a0 : R' 0 = .int .u8 p0 := (hs 0 rfl).trans h0; exact of_move a0) <|
      Obls.cons (Obl.grd 2 true _ _ _ rfl rfl rfl rfl rfl (by kernel_rfl) fun hg R' w' hw hs hd => by have a0 : R' 6 = .int .u8 p0 := hd 0 _ _ _ rfl rfl rfl rfl hg; exact of_leq a0 rfl) <|
      Obls.cons (Obl.plain rfl rfl fun R' w' hw hs hd => by have a0 : R' 5 = .bool (decide ((97 : Int) ≤ p0)) := hd 0 _ _ _ rfl rfl rfl rfl rfl; exact of_pick (decide ((97 : Int) ≤ p0)) a0 (fun hc => by have a1 : R' 7 = .bool (decide (p0 ≤ (122 : Int))) := hd 1 _ _ _ rfl rfl rfl rfl (g_and rfl (beq_of hc)); show _ = Value.bool x1; rw [q2, hc]; exact a1) (fun hc => by show _ = Value.bool x1; rw [q2, hc]; exact rfl)) <|
      Obls.cons (Obl.plain rfl rfl fun R' w' hw hs hd => by have a0 : R' 8 = .bool x1 := hd 0 _ _ _ rfl rfl rfl rfl rfl; exact of_move a0) <|
      Obls.cons (Obl.grd 6 false _ _ _ rfl rfl rfl rfl rfl (by kernel_rfl) fun hg R' w' hw hs hd => by have a0 : R' 0 = .int .u8 p0 := (hs 0 rfl).trans h0; exact of_move a0) <|
      Obls.cons (Obl.grd 6 false _ _ _ rfl rfl rfl rfl rfl (by kernel_rfl) fun hg R' w' hw hs hd => by have a0 : R' 10 = .int .u8 p0 := hd 0 _ _ _ rfl rfl rfl rfl hg; exact of_geq a0 rfl) <|
      Obls.cons (Obl.grd 6 false _ _ _ rfl rfl rfl rfl rfl (by kernel_rfl) fun hg R' w' hw hs hd => by have a0 : R' 11 = .bool (decide ((65 : Int) ≤ p0)) := hd 0 _ _ _ rfl rfl rfl rfl hg; exact of_move a0) <|
      Obls.cons (Obl.grd 9 true _ _ _ rfl rfl rfl rfl rfl (by kernel_rfl) fun hg R' w' hw hs hd => by have a0 : R' 0 = .int .u8 p0 := (hs 0 rfl).trans h0; exact of_move a0) <|
      Obls.cons (Obl.grd 9 true _ _ _ rfl rfl rfl rfl rfl (by kernel_rfl) fun hg R' w' hw hs hd => by have a0 : R' 13 = .int .u8 p0 := hd 0 _ _ _ rfl rfl rfl rfl hg; exact of_leq a0 rfl) <|
      Obls.cons (Obl.grd 6 false _ _ _ rfl rfl rfl rfl rfl (by kernel_rfl) fun hg R' w' hw hs hd => by have a0 : R' 12 = .bool (decide ((65 : Int) ≤ p0)) := hd 0 _ _ _ rfl rfl rfl rfl hg; exact of_pick (decide ((65 : Int) ≤ p0)) a0 (fun hc => by have a1 : R' 14 = .bool (decide (p0 ≤ (90 : Int))) := hd 1 _ _ _ rfl rfl rfl rfl (g_and hg (beq_of hc)); show _ = Value.bool x3; rw [q4, hc]; exact a1) (fun hc => by show _ = Value.bool x3; rw [q4, hc]; exact rfl)) <|
      Obls.cons (Obl.plain rfl rfl fun R' w' hw hs hd => by have a0 : R' 9 = .bool x1 := hd 0 _ _ _ rfl rfl rfl rfl rfl; exact of_pick x1 a0 (fun hc => by show _ = Value.bool x5; rw [q6, hc]; exact rfl) (fun hc => by have a2 : R' 15 = .bool x3 := hd 1 _ _ _ rfl rfl rfl rfl (g_and rfl (beq_of hc)); show _ = Value.bool x5; rw [q6, hc]; exact a2)) <|
      Obls.cons (Obl.plain rfl rfl fun R' w' hw hs hd => by have a0 : R' 16 = .bool x5 := hd 0 _ _ _ rfl rfl rfl rfl rfl; exact of_move a0) <|
      Obls.cons (Obl.grd 14 false _ _ _ rfl rfl rfl rfl rfl (by kernel_rfl) fun hg R' w' hw hs hd => by have a0 : R' 0 = .int .u8 p0 := (hs 0 rfl).trans h0; exact of_move a0) <|
      Obls.cons (Obl.grd 14 false _ _ _ rfl rfl rfl rfl rfl (by kernel_rfl) fun hg R' w' hw hs hd => by have a0 : R' 18 = .int .u8 p0 := hd 0 _ _ _ rfl rfl rfl rfl hg; exact of_geq a0 rfl) <|
      Obls.cons (Obl.grd 14 false _ _ _ rfl rfl rfl rfl rfl (by kernel_rfl) fun hg R' w' hw hs hd => by have a0 : R' 19 = .bool (decide ((48 : Int) ≤ p0)) := hd 0 _ _ _ rfl rfl rfl rfl hg; exact of_move a0) <|
      Obls.cons (Obl.grd 17 true _ _ _ rfl rfl rfl rfl rfl (by kernel_rfl) fun hg R' w' hw hs hd => by have a0 : R' 0 = .int .u8 p0 := (hs 0 rfl).trans h0; exact of_move a0) <|
      Obls.cons (Obl.grd 17 true _ _ _ rfl rfl rfl rfl rfl (by kernel_rfl) fun hg R' w' hw hs hd => by have a0 : R' 21 = .int .u8 p0 := hd 0 _ _ _ rfl rfl rfl rfl hg; exact of_leq a0 rfl) <|
      Obls.cons (Obl.grd 14 false _ _ _ rfl rfl rfl rfl rfl (by kernel_rfl) fun hg R' w' hw hs hd => by have a0 : R' 20 = .bool (decide ((48 : Int) ≤ p0)) := hd 0 _ _ _ rfl rfl rfl rfl hg; exact of_pick (decide ((48 : Int) ≤ p0)) a0 (fun hc => by have a1 : R' 22 = .bool (decide (p0 ≤ (57 : Int))) := hd 1 _ _ _ rfl rfl rfl rfl (g_and hg (beq_of hc)); show _ = Value.bool x7; rw [q8, hc]; exact a1) (fun hc => by show _ = Value.bool x7; rw [q8, hc]; exact rfl)) <|
      Obls.cons (Obl.plain rfl rfl fun R' w' hw hs hd => by have a0 : R' 17 = .bool x5 := hd 0 _ _ _ rfl rfl rfl rfl rfl; exact of_pick x5 a0 (fun hc => by show _ = Value.bool x9; rw [q10, hc]; exact rfl) (fun hc => by have a2 : R' 23 = .bool x7 := hd 1 _ _ _ rfl rfl rfl rfl (g_and rfl (beq_of hc)); show _ = Value.bool x9; rw [q10, hc]; exact a2)) <|
      Obls.cons (Obl.plain rfl rfl fun R' w' hw hs hd => by have a0 : R' 24 = .bool x9 := hd 0 _ _ _ rfl rfl rfl rfl rfl; exact of_assign a0) <|
      Obls.nil
  intro R w hw hs hF'
  have h2 : R 2 = .bool x9 := hF' 22 _ _ rfl rfl rfl
  replace hA := hA.fr hw.size
  replace hF := hF.trans hw
  clear hs hF' hw
  refine seqR_nil ?_
  refine HT.ret ?_
  obtain rfl := Option.some.inj hr
  exact ⟨.inr rfl, [R 2], ⟨rfl, trivial⟩, h2, hF⟩
def M_spec_FoldCase_L0 (fu : Nat) (p0 : List UInt8) : Nat → Int → (List Int) → Option (List Int)
  | 0, _, _ => none
  | k + 1, y5, y6 =>
    bif (decide (y5 < (p0.length : Int))) then (
      ck (inR y5 p0.length) <|
      bd ((decide ((65 : Int) ≤ (bAt p0 y5))) && (decide ((bAt p0 y5) ≤ (90 : Int)))) fun x9 =>
      bif x9 then (
        ck (lenOK (y6.length + ([(IntKind.u8.wrap ((bAt p0 y5) + (32 : Int)))] : List Int).length)) <|
        ck (i64B (y5 + (1 : Int))) <|
        M_spec_FoldCase_L0 fu p0 k (y5 + (1 : Int)) (y6 ++ ([(IntKind.u8.wrap ((bAt p0 y5) + (32 : Int)))] : List Int))
      ) else (
        ck (lenOK (y6.length + ([(bAt p0 y5)] : List Int).length)) <|
        ck (i64B (y5 + (1 : Int))) <|
        M_spec_FoldCase_L0 fu p0 k (y5 + (1 : Int)) (y6 ++ ([(bAt p0 y5)] : List Int))
      )
    ) else (
      some y6
    )
def M_spec_FoldCase (fu : Nat) (p0 : List UInt8) : Option (List UInt8) :=
  cl true (M_spec_FoldCase_L0 fu p0 fu (0 : Int) ([] : List Int)) fun s4 =>
  some (strB s4)
set_option maxRecDepth 100000 in
set_option maxHeartbeats 4000000 in
theorem M_spec_FoldCase_ok {fu : Nat} {A0 : Av} {p0 : List UInt8} {r : List UInt8} (hr : M_spec_FoldCase fu p0 = some r) {w : World} {v0 : Value} (hA : AvOK A0 w) (h0 : Rep eStr A0 w v0 p0) :
    Calls Try.prog 109 #[v0] w fun e w' => ∃ v, e = .returned v ∧ (Rep eStr A0 w' v r ∧ Fr w w') := by
  unfold M_spec_FoldCase at hr
  obtain ⟨w0, hw0⟩ : ∃ w0, w0 = w := ⟨_, rfl⟩
  have hF : Fr w0 w := hw0 ▸ Fr.refl _
  have hA0 : ∀ b o, A0 b o → b < w0.heap.size := fun b o h => hw0 ▸ hA b o h
  have hA00 : AvOK A0 w0 := hA0
  rw [show Fr w = Fr w0 from hw0 ▸ rfl]
  clear hw0
  obtain ⟨A, hAe⟩ : ∃ A, A = A0 := ⟨_, rfl⟩
  have hAA : ∀ b o, A0 b o → A b o := fun b o h => hAe ▸ h
  replace hA : AvOK A w := hAe ▸ hA
  have hO : IniOK [] A w := IniOK.nil
  refine calls_of_HT2 [.tmp 2] Try.func109 Try.ntmps109 (by decide) rfl rfl (Nat.le_of_ble_eq_true rfl) ?_
  intro R hR
  have f_v0 : Rep eStr A w v0 p0 := hAe ▸ h0
  replace h0 : R 0 = v0 := hR 0 _ rfl
  clear hR hAe
  refine HT.seq ?_
  refine HT.text (l := ⟨_, true, .rep eStr A ([] : List UInt8)⟩ :: []) (tl := []) (by kernel_rfl) (by kernel_rfl) (by kernel_rfl) ?_ ?_
  · exact
      Obls.cons (Obl.plain rfl rfl fun R' w' hw hs hd => by exact of_assign ⟨_, rfl, ⟨_, rfl, rfl, by decide⟩⟩) <|
      Obls.nil
  intro R w hw hs hF'
  replace h0 : R 0 = v0 := (hs 0 rfl).trans h0
  replace f_v0 := f_v0.fr hw
  replace hO := hO.fr hw
  replace hA := hA.fr hw.size
  replace hF := hF.trans hw
  clear hs hF' hw
  refine seqR_nil ?_
  refine HT.seq ?_
  refine HT.textR [] (⟨_, true, [], some (.vec w0.heap.size 5 (eInt .u8) ([] : List Int)), true, fun A => .any⟩ :: ⟨_, true, [0], some (.vec w0.heap.size 5 (eInt .u8) ([] : List Int)), true, fun A => .any⟩ :: []) (by kernel_rfl) (by kernel_rfl) (Wf.mk' (by kernel_rfl) (UAll.cons ust_any (UAll.cons ust_any (UAll.nil))) (by kernel_rfl) (by kernel_rfl)) hO hA ?_ ?_
  · exact
      OblsR.cons (OblR.made _ rfl rfl rfl rfl fun A' R' w' ho hd => by exact made_build [] (E := eInt .u8) trivial Try.underlying112 Try.sizeOf5 Try.zeroValue5 rfl rfl rfl (Nat.le_trans hF.size ho.ch.size)) <|
      OblsR.cons (OblR.took 0 _ _ rfl rfl rfl rfl rfl fun A' R' w' ho hd u hok hav hin hop hds => by exact took_assign (hop _ _ rfl rfl rfl rfl).symm hok hav) <|
      OblsR.nil
  intro done ρ σ A R w hdn hI
  replace h0 : R 0 = v0 := (hI.reg rfl).trans h0
  obtain ⟨u1, e_u1⟩ : ∃ u, ρ 1 = u := ⟨_, rfl⟩
  have h3 : R 3 = u1 := (hI.opvR hdn 1 1 rfl rfl rfl rfl rfl).symm.trans e_u1
  replace f_v0 := f_v0.stp hI.stp
  replace hAA := hI.low' hAA hA0 (hO.ge (trivial))
  replace hF : Fr w0 w := hF.tr hI.ch (hO.ge (trivial))
  replace hO : IniOK [ob u1 (.vec w0.heap.size 5 (eInt .u8) ([] : List Int))] A w := hI.left hdn [(1, ob u1 (.vec w0.heap.size 5 (eInt .u8) ([] : List Int)))] ⟨rfl, rfl, e_u1, rfl, rfl, trivial⟩
  replace hA := hI.avok
  clear hI
  refine HT.seq ?_
  refine HT.seq ?_
  refine HT.text (l := ⟨_, true, .raw (.int .i64 (0 : Int))⟩ :: []) (tl := []) (by kernel_rfl) (by kernel_rfl) (by kernel_rfl) ?_ ?_
  · exact
      Obls.cons (Obl.plain rfl rfl fun R' w' hw hs hd => by exact of_assign rfl) <|
      Obls.nil
  intro R w hw hs hF'
  replace h0 : R 0 = v0 := (hs 0 rfl).trans h0
  replace h3 : R 3 = u1 := (hs 3 rfl).trans h3
  have h4 : R 4 = .int .i64 (0 : Int) := hF' 0 _ _ rfl rfl rfl
  replace f_v0 := f_v0.fr hw
  replace hO := hO.fr hw
  replace hA := hA.fr hw.size
  replace hF := hF.trans hw
  clear hs hF' hw
  refine seqR_nil ?_
  obtain ⟨rl2, q3, hr⟩ := cl_some hr
  replace q3 := q3 rfl
  refine HT.cut0 (fun R w => ∃ A : Av, ∃ (s4 : (List Int)) (uo_u1 : Value), rl2 = s4 ∧ AvOK A w ∧ Fr w0 w ∧ (∀ b o, A0 b o → A b o) ∧ IniOK [ob uo_u1 (.vec w0.heap.size 5 (eInt .u8) s4)] A w ∧ R 3 = uo_u1) ?_ ?_
  · refine HT.block ?_
    refine HT.loop (fun k R w => ∃ A : Av, ∃ (y5 : Int) (y6 : List Int) (ul_u1 : Value), M_spec_FoldCase_L0 fu p0 k y5 y6 = some rl2 ∧ AvOK A w ∧ Fr w0 w ∧ (∀ b o, A0 b o → A b o) ∧ IniOK [ob ul_u1 (.vec w0.heap.size 5 (eInt .u8) y6)] A w ∧ R 0 = v0 ∧ R 3 = ul_u1 ∧ R 4 = .int .i64 y5 ∧ Rep eStr A w v0 p0) fu ⟨_, _, _, u1, q3, hA, hF, hAA, hO, h0, h3, h4, f_v0⟩ ?_
    have hr0 := hr; clear hr q3
    rintro k R w ⟨A, y5, y6, ul_u1, hr, hA, hF, hAA, hO, h0, h3, h4, f_v0⟩
    rcases k with _ | k
    · cases (show none = some _ from hr)
    rw [M_spec_FoldCase_L0] at hr
    refine HT.seq ?_
    refine HT.seq ?_
    refine HT.text (l := ⟨_, true, .raw (.int .i64 y5)⟩ :: ⟨_, true, .raw v0⟩ :: ⟨_, true, .raw (.int .i64 (p0.length : Int))⟩ :: ⟨_, true, .raw (.bool (decide (y5 < (p0.length : Int))))⟩ :: []) (tl := []) (by kernel_rfl) (by kernel_rfl) (by kernel_rfl) ?_ ?_
    · exact
        Obls.cons (Obl.plain rfl rfl fun R' w' hw hs hd => by have a0 : R' 4 = .int .i64 y5 := (hs 4 rfl).trans h4; exact of_move a0) <|
        Obls.cons (Obl.plain rfl rfl fun R' w' hw hs hd => by have a0 : R' 0 = v0 := (hs 0 rfl).trans h0; exact of_move a0) <|
        Obls.cons (Obl.plain rfl rfl fun R' w' hw hs hd => by have a0 : R' 8 = v0 := hd 0 _ _ _ rfl rfl rfl rfl rfl; have ra0 := (f_v0.fr hw).eq a0; exact of_len_str ra0 Try.underlying9) <|
        Obls.cons (Obl.plain rfl rfl fun R' w' hw hs hd => by have a0 : R' 7 = .int .i64 y5 := hd 0 _ _ _ rfl rfl rfl rfl rfl; have a1 : R' 9 = .int .i64 (p0.length : Int) := hd 1 _ _ _ rfl rfl rfl rfl rfl; exact of_lss a0 a1) <|
        Obls.nil
    intro R w hw hs hF'
    replace h0 : R 0 = v0 := (hs 0 rfl).trans h0
    replace h3 : R 3 = ul_u1 := (hs 3 rfl).trans h3
    replace h4 : R 4 = .int .i64 y5 := (hs 4 rfl).trans h4
    have h10 : R 10 = .bool (decide (y5 < (p0.length : Int))) := hF' 3 _ _ rfl rfl rfl
    replace f_v0 := f_v0.fr hw
    replace hO := hO.fr hw
    replace hA := hA.fr hw.size
    replace hF := hF.trans hw
    clear hs hF' hw
    refine seqR_nil ?_
    refine HT.cond (decide (y5 < (p0.length : Int))) h10 (fun c7 => ?_) (fun c7 => ?_)
    · have hr := cnd_t c7 hr
      refine HT.skip ?_
      refine HT.seq ?_
      refine HT.block ?_
      refine HT.seq ?_
      obtain ⟨e8, hr⟩ := ck_some hr
      refine HT.text (l := ⟨_, true, .raw v0⟩ :: ⟨_, true, .raw (.int .i64 y5)⟩ :: ⟨_, true, .raw (.int .u8 (bAt p0 y5))⟩ :: ⟨_, true, .raw (.int .u8 (bAt p0 y5))⟩ :: []) (tl := []) (by kernel_rfl) (by kernel_rfl) (by kernel_rfl) ?_ ?_
      · exact
          Obls.cons (Obl.plain rfl rfl fun R' w' hw hs hd => by have a0 : R' 0 = v0 := (hs 0 rfl).trans h0; exact of_move a0) <|
          Obls.cons (Obl.plain rfl rfl fun R' w' hw hs hd => by have a0 : R' 4 = .int .i64 y5 := (hs 4 rfl).trans h4; exact of_move a0) <|
          Obls.cons (Obl.plain rfl rfl fun R' w' hw hs hd => by have a0 : R' 13 = v0 := hd 0 _ _ _ rfl rfl rfl rfl rfl; have ra0 := (f_v0.fr hw).eq a0; have a1 : R' 14 = .int .i64 y5 := hd 1 _ _ _ rfl rfl rfl rfl rfl; exact of_strIndex ra0 a1 Try.underlying9 e8) <|
          Obls.cons (Obl.plain rfl rfl fun R' w' hw hs hd => by have a0 : R' 15 = .int .u8 (bAt p0 y5) := hd 0 _ _ _ rfl rfl rfl rfl rfl; exact of_assign a0) <|
          Obls.nil
      intro R w hw hs hF'
      replace h0 : R 0 = v0 := (hs 0 rfl).trans h0
      replace h3 : R 3 = ul_u1 := (hs 3 rfl).trans h3
      replace h4 : R 4 = .int .i64 y5 := (hs 4 rfl).trans h4
      have h5 : R 5 = .int .u8 (bAt p0 y5) := hF' 3 _ _ rfl rfl rfl
      replace f_v0 := f_v0.fr hw
      replace hO := hO.fr hw
      replace hA := hA.fr hw.size
      replace hF := hF.trans hw
      clear hs hF' hw
      refine seqR_nil ?_
      refine HT.seq ?_
      refine HT.seq ?_
      obtain ⟨x9, q10, hr⟩ := bd_some hr
      refine HT.text (l := ⟨_, true, .raw (.int .u8 (bAt p0 y5))⟩ :: ⟨_, true, .raw (.bool (decide ((65 : Int) ≤ (bAt p0 y5))))⟩ :: ⟨_, true, .raw (.bool (decide ((65 : Int) ≤ (bAt p0 y5))))⟩ :: ⟨_, (true && ((decide ((65 : Int) ≤ (bAt p0 y5))) == true)), .raw (.int .u8 (bAt p0 y5))⟩ :: ⟨_, (true && ((decide ((65 : Int) ≤ (bAt p0 y5))) == true)), .raw (.bool (decide ((bAt p0 y5) ≤ (90 : Int))))⟩ :: ⟨_, true, .raw (.bool x9)⟩ :: []) (tl := []) (by kernel_rfl) (by kernel_rfl) (by kernel_rfl) ?_ ?_
      · exact
          Obls.cons (Obl.plain rfl rfl fun R' w' hw hs hd => by have a0 : R' 5 = .int .u8 (bAt p0 y5) := (hs 5 rfl).trans h5; exact of_move a0) <|
          Obls.cons (Obl.plain rfl rfl fun R' w' hw hs hd => by have a0 : R' 16 = .int .u8 (bAt p0 y5) := hd 0 _ _ _ rfl rfl rfl rfl rfl; exact of_geq a0 rfl) <|
          Obls.cons (Obl.plain rfl rfl fun R' w' hw hs hd => by have a0 : R' 17 = .bool (decide ((65 : Int) ≤ (bAt p0 y5))) := hd 0 _ _ _ rfl rfl rfl rfl rfl; exact of_move a0) <|
          Obls.cons (Obl.grd 2 true _ _ _ rfl rfl rfl rfl rfl (by kernel_rfl) fun hg R' w' hw hs hd => by have a0 : R' 5 = .int .u8 (bAt p0 y5) := (hs 5 rfl).trans h5; exact of_move a0) <|
          Obls.cons (Obl.grd 2 true _ _ _ rfl rfl rfl rfl rfl (by kernel_rfl) fun hg R' w' hw hs hd => by have a0 : R' 19 = .int .u8 (bAt p0 y5) := hd 0 _ _ _ rfl rfl rfl rfl hg; exact of_leq a0 rfl) <|
          Obls.cons (Obl.plain rfl rfl fun R' w' hw hs hd => by have a0 : R' 18 = .bool (decide ((65 : Int) ≤ (bAt p0 y5))) := hd 0 _ _ _ rfl rfl rfl rfl rfl; exact of_pick (decide ((65 : Int) ≤ (bAt p0 y5))) a0 (fun hc => by have a1 : R' 20 = .bool (decide ((bAt p0 y5) ≤ (90 : Int))) := hd 1 _ _ _ rfl rfl rfl rfl (g_and rfl (beq_of hc)); show _ = Value.bool x9; rw [q10, hc]; exact a1) (fun hc => by show _ = Value.bool x9; rw [q10, hc]; exact rfl)) <|
          Obls.nil
      intro R w hw hs hF'
      replace h0 : R 0 = v0 := (hs 0 rfl).trans h0
      replace h3 : R 3 = ul_u1 := (hs 3 rfl).trans h3
      replace h4 : R 4 = .int .i64 y5 := (hs 4 rfl).trans h4
      replace h5 : R 5 = .int .u8 (bAt p0 y5) := (hs 5 rfl).trans h5
      have h21 : R 21 = .bool x9 := hF' 5 _ _ rfl rfl rfl
      replace f_v0 := f_v0.fr hw
      replace hO := hO.fr hw
      replace hA := hA.fr hw.size
      replace hF := hF.trans hw
      clear hs hF' hw
      refine seqR_nil ?_
      refine HT.cond x9 h21 (fun c11 => ?_) (fun c11 => ?_)
      · have hr := cnd_t c11 hr
        refine HT.text (l := ⟨_, true, .raw (.int .u8 (bAt p0 y5))⟩ :: ⟨_, true, .raw (.int .u8 (IntKind.u8.wrap ((bAt p0 y5) + (32 : Int))))⟩ :: ⟨_, true, .raw (.int .u8 (IntKind.u8.wrap ((bAt p0 y5) + (32 : Int))))⟩ :: []) (tl := []) (by kernel_rfl) (by kernel_rfl) (by kernel_rfl) ?_ ?_
        · exact
            Obls.cons (Obl.plain rfl rfl fun R' w' hw hs hd => by have a0 : R' 5 = .int .u8 (bAt p0 y5) := (hs 5 rfl).trans h5; exact of_move a0) <|
            Obls.cons (Obl.plain rfl rfl fun R' w' hw hs hd => by have a0 : R' 22 = .int .u8 (bAt p0 y5) := hd 0 _ _ _ rfl rfl rfl rfl rfl; exact of_add_w a0 rfl) <|
            Obls.cons (Obl.plain rfl rfl fun R' w' hw hs hd => by have a0 : R' 23 = .int .u8 (IntKind.u8.wrap ((bAt p0 y5) + (32 : Int))) := hd 0 _ _ _ rfl rfl rfl rfl rfl; exact of_assign a0) <|
            Obls.nil
        intro R w hw hs hF'
        replace h0 : R 0 = v0 := (hs 0 rfl).trans h0
        replace h3 : R 3 = ul_u1 := (hs 3 rfl).trans h3
        replace h4 : R 4 = .int .i64 y5 := (hs 4 rfl).trans h4
        have h5 : R 5 = .int .u8 (IntKind.u8.wrap ((bAt p0 y5) + (32 : Int))) := hF' 2 _ _ rfl rfl rfl
        replace f_v0 := f_v0.fr hw
        replace hO := hO.fr hw
        replace hA := hA.fr hw.size
        replace hF := hF.trans hw
        clear hs hF' hw
        refine seqR_nil ?_
        obtain ⟨e12, hr⟩ := ck_some hr
        refine HT.textR [ob ul_u1 (.vec w0.heap.size 5 (eInt .u8) y6)] (⟨_, true, [], none, true, fun A => .raw ul_u1⟩ :: ⟨_, true, [], none, true, fun A => .raw (.int .u8 (IntKind.u8.wrap ((bAt p0 y5) + (32 : Int))))⟩ :: ⟨_, true, [], none, true, fun A => .rep (eSl (eInt .u8)) A ([(IntKind.u8.wrap ((bAt p0 y5) + (32 : Int)))] : List Int)⟩ :: ⟨_, true, [0], some (.vec w0.heap.size 5 (eInt .u8) (y6 ++ ([(IntKind.u8.wrap ((bAt p0 y5) + (32 : Int)))] : List Int))), true, fun A => .any⟩ :: ⟨_, true, [4], some (.vec w0.heap.size 5 (eInt .u8) (y6 ++ ([(IntKind.u8.wrap ((bAt p0 y5) + (32 : Int)))] : List Int))), true, fun A => .any⟩ :: []) (by kernel_rfl) (by kernel_rfl) (Wf.mk' (by kernel_rfl) (UAll.cons ust_raw (UAll.cons ust_raw (UAll.cons ust_rep (UAll.cons ust_any (UAll.cons ust_any (UAll.nil)))))) (by kernel_rfl) (by kernel_rfl)) hO hA ?_ ?_
        · exact
            OblsR.cons (OblR.plain rfl rfl rfl rfl fun A' R' w' ho hd => by have a0 : R' 3 = ul_u1 := (ho.old 3 rfl).trans h3; exact of_move a0) <|
            OblsR.cons (OblR.plain rfl rfl rfl rfl fun A' R' w' ho hd => by have a0 : R' 5 = .int .u8 (IntKind.u8.wrap ((bAt p0 y5) + (32 : Int))) := (ho.old 5 rfl).trans h5; exact of_move a0) <|
            OblsR.cons (OblR.plain rfl rfl rfl rfl fun A' R' w' ho hd => by have a0 : R' 25 = .int .u8 (IntKind.u8.wrap ((bAt p0 y5) + (32 : Int))) := hd 0 _ _ _ rfl rfl rfl rfl rfl; exact of_build [_] (E := eInt .u8) ⟨(rep_int.eq a0), trivial⟩ Try.underlying112 Try.sizeOf5 Try.zeroValue5 rfl rfl rfl ho.av) <|
            OblsR.cons (OblR.took 0 _ _ rfl rfl rfl rfl rfl fun A' R' w' ho hd u hok hav hin hop hds => by have a0 : R' 24 = ul_u1 := hd 0 _ _ _ rfl rfl rfl rfl rfl; have a1 : Rep (eSl (eInt .u8)) A' w' (R' 26) ([(IntKind.u8.wrap ((bAt p0 y5) + (32 : Int)))] : List Int) := hd 1 _ _ _ rfl rfl rfl rfl rfl; exact took_append (a0.trans (hin _ rfl).symm) hok hav (Nat.le_trans hF.size ho.ch.size) a1 Try.underlying112 el_5 e12) <|
            OblsR.cons (OblR.took 4 _ _ rfl rfl rfl rfl rfl fun A' R' w' ho hd u hok hav hin hop hds => by exact took_assign (hop _ _ rfl rfl rfl rfl).symm hok hav) <|
            OblsR.nil
        intro done ρ σ A R w hdn hI
        replace h0 : R 0 = v0 := (hI.reg rfl).trans h0
        replace h4 : R 4 = .int .i64 y5 := (hI.reg rfl).trans h4
        obtain ⟨u13, e_u13⟩ : ∃ u, ρ 5 = u := ⟨_, rfl⟩
        have h3 : R 3 = u13 := (hI.opvR hdn 5 4 rfl rfl rfl rfl rfl).symm.trans e_u13
        replace f_v0 := f_v0.stp hI.stp
        replace hAA := hI.low' hAA hA0 (hO.ge (⟨rfl, trivial⟩))
        replace hF : Fr w0 w := hF.tr hI.ch (hO.ge (⟨rfl, trivial⟩))
        replace hO : IniOK [ob u13 (.vec w0.heap.size 5 (eInt .u8) (y6 ++ ([(IntKind.u8.wrap ((bAt p0 y5) + (32 : Int)))] : List Int)))] A w := hI.left hdn [(5, ob u13 (.vec w0.heap.size 5 (eInt .u8) (y6 ++ ([(IntKind.u8.wrap ((bAt p0 y5) + (32 : Int)))] : List Int))))] ⟨rfl, rfl, e_u13, rfl, rfl, trivial⟩
        replace hA := hI.avok
        clear hI
        obtain ⟨e14, hr⟩ := ck_some hr
        refine HT.text (l := ⟨_, true, .raw (.int .i64 y5)⟩ :: ⟨_, true, .raw (.int .i64 (y5 + (1 : Int)))⟩ :: ⟨_, true, .raw (.int .i64 (y5 + (1 : Int)))⟩ :: []) (tl := []) (by kernel_rfl) (by kernel_rfl) (by kernel_rfl) ?_ ?_
        · exact
            Obls.cons (Obl.plain rfl rfl fun R' w' hw hs hd => by have a0 : R' 4 = .int .i64 y5 := (hs 4 rfl).trans h4; exact of_move a0) <|
            Obls.cons (Obl.plain rfl rfl fun R' w' hw hs hd => by have a0 : R' 11 = .int .i64 y5 := hd 0 _ _ _ rfl rfl rfl rfl rfl; exact of_add a0 rfl e14) <|
            Obls.cons (Obl.plain rfl rfl fun R' w' hw hs hd => by have a0 : R' 12 = .int .i64 (y5 + (1 : Int)) := hd 0 _ _ _ rfl rfl rfl rfl rfl; exact of_assign a0) <|
            Obls.nil
        intro R w hw hs hF'
        replace h0 : R 0 = v0 := (hs 0 rfl).trans h0
        replace h3 : R 3 = u13 := (hs 3 rfl).trans h3
        have h4 : R 4 = .int .i64 (y5 + (1 : Int)) := hF' 2 _ _ rfl rfl rfl
        replace f_v0 := f_v0.fr hw
        replace hO := hO.fr hw
        replace hA := hA.fr hw.size
        replace hF := hF.trans hw
        clear hs hF' hw
        refine seqR_nil ?_
        exact Exists.intro k (And.intro (Nat.lt_succ_self k) ⟨_, _, _, u13, hr, hA, hF, hAA, hO, h0, h3, h4, f_v0⟩)
      · have hr := cnd_f c11 hr
        refine HT.skip ?_
        obtain ⟨e15, hr⟩ := ck_some hr
        refine HT.textR [ob ul_u1 (.vec w0.heap.size 5 (eInt .u8) y6)] (⟨_, true, [], none, true, fun A => .raw ul_u1⟩ :: ⟨_, true, [], none, true, fun A => .raw (.int .u8 (bAt p0 y5))⟩ :: ⟨_, true, [], none, true, fun A => .rep (eSl (eInt .u8)) A ([(bAt p0 y5)] : List Int)⟩ :: ⟨_, true, [0], some (.vec w0.heap.size 5 (eInt .u8) (y6 ++ ([(bAt p0 y5)] : List Int))), true, fun A => .any⟩ :: ⟨_, true, [4], some (.vec w0.heap.size 5 (eInt .u8) (y6 ++ ([(bAt p0 y5)] : List Int))), true, fun A => .any⟩ :: []) (by kernel_rfl) (by kernel_rfl) (Wf.mk' (by kernel_rfl) (UAll.cons ust_raw (UAll.cons ust_raw (UAll.cons ust_rep (UAll.cons ust_any (UAll.cons ust_any (UAll.nil)))))) (by kernel_rfl) (by kernel_rfl)) hO hA ?_ ?_
        · exact
            OblsR.cons (OblR.plain rfl rfl rfl rfl fun A' R' w' ho hd => by have a0 : R' 3 = ul_u1 := (ho.old 3 rfl).trans h3; exact of_move a0) <|
            OblsR.cons (OblR.plain rfl rfl rfl rfl fun A' R' w' ho hd => by have a0 : R' 5 = .int .u8 (bAt p0 y5) := (ho.old 5 rfl).trans h5; exact of_move a0) <|
            OblsR.cons (OblR.plain rfl rfl rfl rfl fun A' R' w' ho hd => by have a0 : R' 25 = .int .u8 (bAt p0 y5) := hd 0 _ _ _ rfl rfl rfl rfl rfl; exact of_build [_] (E := eInt .u8) ⟨(rep_int.eq a0), trivial⟩ Try.underlying112 Try.sizeOf5 Try.zeroValue5 rfl rfl rfl ho.av) <|
            OblsR.cons (OblR.took 0 _ _ rfl rfl rfl rfl rfl fun A' R' w' ho hd u hok hav hin hop hds => by have a0 : R' 24 = ul_u1 := hd 0 _ _ _ rfl rfl rfl rfl rfl; have a1 : Rep (eSl (eInt .u8)) A' w' (R' 26) ([(bAt p0 y5)] : List Int) := hd 1 _ _ _ rfl rfl rfl rfl rfl; exact took_append (a0.trans (hin _ rfl).symm) hok hav (Nat.le_trans hF.size ho.ch.size) a1 Try.underlying112 el_5 e15) <|
            OblsR.cons (OblR.took 4 _ _ rfl rfl rfl rfl rfl fun A' R' w' ho hd u hok hav hin hop hds => by exact took_assign (hop _ _ rfl rfl rfl rfl).symm hok hav) <|
            OblsR.nil
        intro done ρ σ A R w hdn hI
        replace h0 : R 0 = v0 := (hI.reg rfl).trans h0
        replace h4 : R 4 = .int .i64 y5 := (hI.reg rfl).trans h4
        obtain ⟨u16, e_u16⟩ : ∃ u, ρ 5 = u := ⟨_, rfl⟩
        have h3 : R 3 = u16 := (hI.opvR hdn 5 4 rfl rfl rfl rfl rfl).symm.trans e_u16
        replace f_v0 := f_v0.stp hI.stp
        replace hAA := hI.low' hAA hA0 (hO.ge (⟨rfl, trivial⟩))
        replace hF : Fr w0 w := hF.tr hI.ch (hO.ge (⟨rfl, trivial⟩))
        replace hO : IniOK [ob u16 (.vec w0.heap.size 5 (eInt .u8) (y6 ++ ([(bAt p0 y5)] : List Int)))] A w := hI.left hdn [(5, ob u16 (.vec w0.heap.size 5 (eInt .u8) (y6 ++ ([(bAt p0 y5)] : List Int))))] ⟨rfl, rfl, e_u16, rfl, rfl, trivial⟩
        replace hA := hI.avok
        clear hI
        obtain ⟨e17, hr⟩ := ck_some hr
        refine HT.text (l := ⟨_, true, .raw (.int .i64 y5)⟩ :: ⟨_, true, .raw (.int .i64 (y5 + (1 : Int)))⟩ :: ⟨_, true, .raw (.int .i64 (y5 + (1 : Int)))⟩ :: []) (tl := []) (by kernel_rfl) (by kernel_rfl) (by kernel_rfl) ?_ ?_
        · exact
            Obls.cons (Obl.plain rfl rfl fun R' w' hw hs hd => by have a0 : R' 4 = .int .i64 y5 := (hs 4 rfl).trans h4; exact of_move a0) <|
            Obls.cons (Obl.plain rfl rfl fun R' w' hw hs hd => by have a0 : R' 11 = .int .i64 y5 := hd 0 _ _ _ rfl rfl rfl rfl rfl; exact of_add a0 rfl e17) <|
            Obls.cons (Obl.plain rfl rfl fun R' w' hw hs hd => by have a0 : R' 12 = .int .i64 (y5 + (1 : Int)) := hd 0 _ _ _ rfl rfl rfl rfl rfl; exact of_assign a0) <|
            Obls.nil
        intro R w hw hs hF'
        replace h0 : R 0 = v0 := (hs 0 rfl).trans h0
        replace h3 : R 3 = u16 := (hs 3 rfl).trans h3
        have h4 : R 4 = .int .i64 (y5 + (1 : Int)) := hF' 2 _ _ rfl rfl rfl
        replace f_v0 := f_v0.fr hw
        replace hO := hO.fr hw
        replace hA := hA.fr hw.size
        replace hF := hF.trans hw
        clear hs hF' hw
        refine seqR_nil ?_
        exact Exists.intro k (And.intro (Nat.lt_succ_self k) ⟨_, _, _, u16, hr, hA, hF, hAA, hO, h0, h3, h4, f_v0⟩)
    · have hr := cnd_f c7 hr
      refine HT.exit ?_
      obtain rfl := Option.some.inj hr
      exact Exists.intro _ ⟨_, ul_u1, rfl, hA, hF, hAA, hO, h3⟩
  rintro R w ⟨A, s4, uo_u1, es, hA, hF, hAA, hO, h3⟩
  obtain rfl := es.symm
  refine HT.seq ?_
  refine HT.text (l := ⟨_, true, .raw uo_u1⟩ :: ⟨_, true, .rep eStr A (strB s4)⟩ :: ⟨_, true, .rep eStr A (strB s4)⟩ :: []) (tl := []) (by kernel_rfl) (by kernel_rfl) (by kernel_rfl) ?_ ?_
  · exact
      Obls.cons (Obl.plain rfl rfl fun R' w' hw hs hd => by have a0 : R' 3 = uo_u1 := (hs 3 rfl).trans h3; exact of_move a0) <|
      Obls.cons (Obl.plain rfl rfl fun R' w' hw hs hd => by have a0 : R' 28 = uo_u1 := hd 0 _ _ _ rfl rfl rfl rfl rfl; have ra0 := (vec_rep ((hO.fr hw).ok 0 _ rfl).1 hAA hA0).eq a0; exact of_conv_bytes ra0 Try.underlying112 Try.underlying5 Try.underlying9) <|
      Obls.cons (Obl.plain rfl rfl fun R' w' hw hs hd => by have a0 : Rep eStr A w' (R' 29) (strB s4) := hd 0 _ _ _ rfl rfl rfl rfl rfl; exact of_assign a0) <|
      Obls.nil
  intro R w hw hs hF'
  obtain ⟨u18, h2, f_u18⟩ : ∃ u, R 2 = u ∧ Rep eStr A w u (strB s4) := ⟨_, rfl, hF' 2 _ _ rfl rfl rfl⟩
  replace hO := hO.fr hw
  replace hO : IniOK [] A w := hO.sub [] trivial
  replace hA := hA.fr hw.size
  replace hF := hF.trans hw
  clear hs hF' hw
  refine seqR_nil ?_
  refine HT.ret ?_
  obtain rfl := Option.some.inj hr
  exact ⟨.inr rfl, [R 2], ⟨rfl, trivial⟩, (f_u18.eq h2).down hAA, hF⟩
def M_spec_IsTokenSet_L1 (fu : Nat) (p0 : List (List UInt8)) (y4 : Int) : Nat → Int → Option (Ex Bool Unit)
  | 0, _ => none
  | k + 1, y18 =>
    ck (inR y4 p0.length) <|
    bif (decide (y18 < ((gtD p0 y4).length : Int))) then (
      ck (inR y4 p0.length) <|
      ck (inR y18 (gtD p0 y4).length) <|
      cl true (M_spec_l2Word fu (bAt (gtD p0 y4) y18)) fun x23 =>
      ck (!(true && ((!x23) == false)) || inR y4 p0.length) <|
      cl (true && ((!x23) == false)) (M_spec_FoldCase fu (gtD p0 y4)) fun x26 =>
      ck (!(true && ((!x23) == false)) || inR y4 p0.length) <|
      bd ((!x23) || (!(x26 == (gtD p0 y4)))) fun x29 =>
      bif x29 then (
        some (Ex.ret false)
      ) else (
        ck (i64B (y18 + (1 : Int))) <|
        M_spec_IsTokenSet_L1 fu p0 y4 k (y18 + (1 : Int))
      )
    ) else (
      some (Ex.go ())
    )
def M_spec_IsTokenSet_L0 (fu : Nat) (p0 : List (List UInt8)) : Nat → Int → Option (Ex Bool Unit)
  | 0, _ => none
  | k + 1, y4 =>
    bif (decide (y4 < (p0.length : Int))) then (
      ck (inR y4 p0.length) <|
      ck (!((true && (((gtD p0 y4) == ([] : List UInt8)) == false)) && ((decide ((0 : Int) < y4)) == true)) || i64B (y4 - (1 : Int))) <|
      ck (!((true && (((gtD p0 y4) == ([] : List UInt8)) == false)) && ((decide ((0 : Int) < y4)) == true)) || inR (y4 - (1 : Int)) p0.length) <|
      ck (!((true && (((gtD p0 y4) == ([] : List UInt8)) == false)) && ((decide ((0 : Int) < y4)) == true)) || inR y4 p0.length) <|
      bd ((decide ((0 : Int) < y4)) && (!(bLt (gtD p0 (y4 - (1 : Int))) (gtD p0 y4)))) fun x10 =>
      bd (((gtD p0 y4) == ([] : List UInt8)) || x10) fun x12 =>
      bif x12 then (
        some (Ex.ret false)
      ) else (
        cl true (M_spec_IsTokenSet_L1 fu p0 y4 fu (0 : Int)) fun rl15 =>
        exM rl15 (fun r => some (Ex.ret r)) fun s17 =>
        ck (i64B (y4 + (1 : Int))) <|
        M_spec_IsTokenSet_L0 fu p0 k (y4 + (1 : Int))
      )
    ) else (
      some (Ex.go ())
    )
def M_spec_IsTokenSet (fu : Nat) (p0 : List (List UInt8)) : Option Bool :=
  cl true (M_spec_IsTokenSet_L0 fu p0 fu (0 : Int)) fun rl1 =>
  exM rl1 (fun r => some r) fun s3 =>
  some true
set_option maxRecDepth 100000 in
set_option maxHeartbeats 4000000 in
theorem M_spec_IsTokenSet_ok {fu : Nat} {A : Av} {p0 : List (List UInt8)} {r : Bool} (hr : M_spec_IsTokenSet fu p0 = some r) {w : World} {v0 : Value} (hA : AvOK A w) (h0 : Rep (eSl eStr) A w v0 p0) :
    Calls Try.prog 75 #[v0] w fun e w' => ∃ v, e = .returned v ∧ (v = .bool r ∧ Fr w w') := by
  unfold M_spec_IsTokenSet at hr
  obtain ⟨w0, hw0⟩ : ∃ w0, w0 = w := ⟨_, rfl⟩
  have hF : Fr w0 w := hw0 ▸ Fr.refl _
  rw [show Fr w = Fr w0 from hw0 ▸ rfl]
  clear hw0
  refine calls_of_HT2 [.tmp 2] Try.func75 Try.ntmps75 (by decide) rfl rfl (Nat.le_of_ble_eq_true rfl) ?_
  intro R hR
  have f_v0 := h0
  replace h0 : R 0 = v0 := hR 0 _ rfl
  clear hR
  refine HT.seq ?_
  refine HT.text (l := ⟨_, true, .raw (.bool false)⟩ :: []) (tl := []) (by kernel_rfl) (by kernel_rfl) (by kernel_rfl) ?_ ?_
  · exact
      Obls.cons (Obl.plain rfl rfl fun R' w' hw hs hd => by exact of_assign rfl) <|
      Obls.nil
  intro R w hw hs hF'
  replace h0 : R 0 = v0 := (hs 0 rfl).trans h0
  replace f_v0 := f_v0.fr hw
  replace hA := hA.fr hw.size
  replace hF := hF.trans hw
  clear hs hF' hw
  refine seqR_nil ?_
  refine HT.seq ?_
  refine HT.seq ?_
  refine HT.text (l := ⟨_, true, .raw (.int .i64 (0 : Int))⟩ :: []) (tl := []) (by kernel_rfl) (by kernel_rfl) (by kernel_rfl) ?_ ?_
  · exact
      Obls.cons (Obl.plain rfl rfl fun R' w' hw hs hd => by exact of_assign rfl) <|
      Obls.nil
  intro R w hw hs hF'
  replace h0 : R 0 = v0 := (hs 0 rfl).trans h0
  have h3 : R 3 = .int .i64 (0 : Int) := hF' 0 _ _ rfl rfl rfl
  replace f_v0 := f_v0.fr hw
  replace hA := hA.fr hw.size
  replace hF := hF.trans hw
  clear hs hF' hw
  refine seqR_nil ?_
  obtain ⟨rl1, q2, hr⟩ := cl_some hr
  replace q2 := q2 rfl
  refine HT.cut0 (fun R w => ∃ (s3 : Unit), rl1 = Ex.go s3 ∧ AvOK A w ∧ Fr w0 w) ?_ ?_
  · refine HT.block ?_
    refine HT.loop (fun k R w => ∃ (y4 : Int), M_spec_IsTokenSet_L0 fu p0 k y4 = some rl1 ∧ AvOK A w ∧ Fr w0 w ∧ R 0 = v0 ∧ R 3 = .int .i64 y4 ∧ Rep (eSl eStr) A w v0 p0) fu ⟨_, q2, hA, hF, h0, h3, f_v0⟩ ?_
    have hr0 := hr; clear hr q2
    rintro k R w ⟨y4, hr, hA, hF, h0, h3, f_v0⟩
    rcases k with _ | k
    · cases (show none = some _ from hr)
    rw [M_spec_IsTokenSet_L0] at hr
    refine HT.seq ?_
    refine HT.seq ?_
    refine HT.text (l := ⟨_, true, .raw (.int .i64 y4)⟩ :: ⟨_, true, .raw v0⟩ :: ⟨_, true, .raw (.int .i64 (p0.length : Int))⟩ :: ⟨_, true, .raw (.bool (decide (y4 < (p0.length : Int))))⟩ :: []) (tl := []) (by kernel_rfl) (by kernel_rfl) (by kernel_rfl) ?_ ?_
    · exact
        Obls.cons (Obl.plain rfl rfl fun R' w' hw hs hd => by have a0 : R' 3 = .int .i64 y4 := (hs 3 rfl).trans h3; exact of_move a0) <|
        Obls.cons (Obl.plain rfl rfl fun R' w' hw hs hd => by have a0 : R' 0 = v0 := (hs 0 rfl).trans h0; exact of_move a0) <|
        Obls.cons (Obl.plain rfl rfl fun R' w' hw hs hd => by have a0 : R' 6 = v0 := hd 0 _ _ _ rfl rfl rfl rfl rfl; have ra0 := (f_v0.fr hw).eq a0; exact of_len_sl (aT := #[]) ra0 Try.underlying23) <|
        Obls.cons (Obl.plain rfl rfl fun R' w' hw hs hd => by have a0 : R' 5 = .int .i64 y4 := hd 0 _ _ _ rfl rfl rfl rfl rfl; have a1 : R' 7 = .int .i64 (p0.length : Int) := hd 1 _ _ _ rfl rfl rfl rfl rfl; exact of_lss a0 a1) <|
        Obls.nil
    intro R w hw hs hF'
    replace h0 : R 0 = v0 := (hs 0 rfl).trans h0
    replace h3 : R 3 = .int .i64 y4 := (hs 3 rfl).trans h3
    have h8 : R 8 = .bool (decide (y4 < (p0.length : Int))) := hF' 3 _ _ rfl rfl rfl
    replace f_v0 := f_v0.fr hw
    replace hA := hA.fr hw.size
    replace hF := hF.trans hw
    clear hs hF' hw
    refine seqR_nil ?_
    refine HT.cond (decide (y4 < (p0.length : Int))) h8 (fun c5 => ?_) (fun c5 => ?_)
    · have hr := cnd_t c5 hr
      refine HT.skip ?_
      refine HT.seq ?_
      refine HT.block ?_
      refine HT.seq ?_
      refine HT.seq ?_
      obtain ⟨e6, hr⟩ := ck_some hr
      obtain ⟨e7, hr⟩ := ck_some hr
      obtain ⟨e8, hr⟩ := ck_some hr
      obtain ⟨e9, hr⟩ := ck_some hr
      obtain ⟨x10, q11, hr⟩ := bd_some hr
      obtain ⟨x12, q13, hr⟩ := bd_some hr
      refine HT.draw (by kernel_rfl) (l := ⟨_, true, .raw v0⟩ :: ⟨_, true, .raw (.int .i64 y4)⟩ :: ⟨_, true, .qtr eStr A (gtD p0 y4)⟩ :: ⟨_, true, .rep eStr A (gtD p0 y4)⟩ :: ⟨_, true, .raw (.bool ((gtD p0 y4) == ([] : List UInt8)))⟩ :: ⟨_, true, .raw (.bool ((gtD p0 y4) == ([] : List UInt8)))⟩ :: ⟨_, (true && (((gtD p0 y4) == ([] : List UInt8)) == false)), .raw (.int .i64 y4)⟩ :: ⟨_, (true && (((gtD p0 y4) == ([] : List UInt8)) == false)), .raw (.bool (decide ((0 : Int) < y4)))⟩ :: ⟨_, (true && (((gtD p0 y4) == ([] : List UInt8)) == false)), .raw (.bool (decide ((0 : Int) < y4)))⟩ :: ⟨_, ((true && (((gtD p0 y4) == ([] : List UInt8)) == false)) && ((decide ((0 : Int) < y4)) == true)), .raw v0⟩ :: ⟨_, ((true && (((gtD p0 y4) == ([] : List UInt8)) == false)) && ((decide ((0 : Int) < y4)) == true)), .raw (.int .i64 y4)⟩ :: ⟨_, ((true && (((gtD p0 y4) == ([] : List UInt8)) == false)) && ((decide ((0 : Int) < y4)) == true)), .raw (.int .i64 (y4 - (1 : Int)))⟩ :: ⟨_, ((true && (((gtD p0 y4) == ([] : List UInt8)) == false)) && ((decide ((0 : Int) < y4)) == true)), .qtr eStr A (gtD p0 (y4 - (1 : Int)))⟩ :: ⟨_, ((true && (((gtD p0 y4) == ([] : List UInt8)) == false)) && ((decide ((0 : Int) < y4)) == true)), .rep eStr A (gtD p0 (y4 - (1 : Int)))⟩ :: ⟨_, ((true && (((gtD p0 y4) == ([] : List UInt8)) == false)) && ((decide ((0 : Int) < y4)) == true)), .raw v0⟩ :: ⟨_, ((true && (((gtD p0 y4) == ([] : List UInt8)) == false)) && ((decide ((0 : Int) < y4)) == true)), .raw (.int .i64 y4)⟩ :: ⟨_, ((true && (((gtD p0 y4) == ([] : List UInt8)) == false)) && ((decide ((0 : Int) < y4)) == true)), .qtr eStr A (gtD p0 y4)⟩ :: ⟨_, ((true && (((gtD p0 y4) == ([] : List UInt8)) == false)) && ((decide ((0 : Int) < y4)) == true)), .rep eStr A (gtD p0 y4)⟩ :: ⟨_, ((true && (((gtD p0 y4) == ([] : List UInt8)) == false)) && ((decide ((0 : Int) < y4)) == true)), .raw (.bool (!(bLt (gtD p0 (y4 - (1 : Int))) (gtD p0 y4))))⟩ :: ⟨_, (true && (((gtD p0 y4) == ([] : List UInt8)) == false)), .raw (.bool x10)⟩ :: ⟨_, true, .raw (.bool x12)⟩ :: []) (tl := []) (by kernel_rfl) (by kernel_rfl) (by kernel_rfl) (by kernel_rfl) ?_ ?_
      · exact
          Obls.cons (Obl.plain rfl rfl fun R' w' hw hs hd => by have a0 : R' 0 = v0 := (hs 0 rfl).trans h0; exact of_move a0) <|
          Obls.cons (Obl.plain rfl rfl fun R' w' hw hs hd => by have a0 : R' 3 = .int .i64 y4 := (hs 3 rfl).trans h3; exact of_move a0) <|
          Obls.cons (Obl.plain rfl rfl fun R' w' hw hs hd => by have a0 : R' 11 = v0 := hd 0 _ _ _ rfl rfl rfl rfl rfl; have a1 : R' 12 = .int .i64 y4 := hd 1 _ _ _ rfl rfl rfl rfl rfl; have ra0 := (f_v0.fr hw).eq a0; exact of_indexAddr ra0 a1 Try.underlying23 Try.sizeOf9 e6) <|
          Obls.cons (Obl.plain rfl rfl fun R' w' hw hs hd => by have a0 : QRep eStr A w' (R' 13) (gtD p0 y4) := hd 0 _ _ _ rfl rfl rfl rfl rfl; exact (of_load a0.ptr Try.isAgg9 Try.sizeOf9)) <|
          Obls.cons (Obl.plain rfl rfl fun R' w' hw hs hd => by have a0 : Rep eStr A w' (R' 14) (gtD p0 y4) := hd 0 _ _ _ rfl rfl rfl rfl rfl; exact of_seql a0 ⟨_, rfl, ⟨_, rfl, rfl, by decide⟩⟩) <|
          Obls.cons (Obl.plain rfl rfl fun R' w' hw hs hd => by have a0 : R' 15 = .bool ((gtD p0 y4) == ([] : List UInt8)) := hd 0 _ _ _ rfl rfl rfl rfl rfl; exact of_move a0) <|
          Obls.cons (Obl.grd 5 false _ _ _ rfl rfl rfl rfl rfl (by kernel_rfl) fun hg R' w' hw hs hd => by have a0 : R' 3 = .int .i64 y4 := (hs 3 rfl).trans h3; exact of_move a0) <|
          Obls.cons (Obl.grd 5 false _ _ _ rfl rfl rfl rfl rfl (by kernel_rfl) fun hg R' w' hw hs hd => by have a0 : R' 17 = .int .i64 y4 := hd 0 _ _ _ rfl rfl rfl rfl hg; exact of_gtr a0 rfl) <|
          Obls.cons (Obl.grd 5 false _ _ _ rfl rfl rfl rfl rfl (by kernel_rfl) fun hg R' w' hw hs hd => by have a0 : R' 18 = .bool (decide ((0 : Int) < y4)) := hd 0 _ _ _ rfl rfl rfl rfl hg; exact of_move a0) <|
          Obls.cons (Obl.grd 8 true _ _ _ rfl rfl rfl rfl rfl (by kernel_rfl) fun hg R' w' hw hs hd => by have a0 : R' 0 = v0 := (hs 0 rfl).trans h0; exact of_move a0) <|
          Obls.cons (Obl.grd 8 true _ _ _ rfl rfl rfl rfl rfl (by kernel_rfl) fun hg R' w' hw hs hd => by have a0 : R' 3 = .int .i64 y4 := (hs 3 rfl).trans h3; exact of_move a0) <|
          Obls.cons (Obl.grd 8 true _ _ _ rfl rfl rfl rfl rfl (by kernel_rfl) fun hg R' w' hw hs hd => by have a0 : R' 21 = .int .i64 y4 := hd 0 _ _ _ rfl rfl rfl rfl hg; exact of_sub a0 rfl (gd e7 hg)) <|
          Obls.cons (Obl.grd 8 true _ _ _ rfl rfl rfl rfl rfl (by kernel_rfl) fun hg R' w' hw hs hd => by have a0 : R' 20 = v0 := hd 0 _ _ _ rfl rfl rfl rfl hg; have a1 : R' 22 = .int .i64 (y4 - (1 : Int)) := hd 1 _ _ _ rfl rfl rfl rfl hg; have ra0 := (f_v0.fr hw).eq a0; exact of_indexAddr ra0 a1 Try.underlying23 Try.sizeOf9 (gd e8 hg)) <|
          Obls.cons (Obl.grd 8 true _ _ _ rfl rfl rfl rfl rfl (by kernel_rfl) fun hg R' w' hw hs hd => by have a0 : QRep eStr A w' (R' 23) (gtD p0 (y4 - (1 : Int))) := hd 0 _ _ _ rfl rfl rfl rfl hg; exact (of_load a0.ptr Try.isAgg9 Try.sizeOf9)) <|
          Obls.cons (Obl.grd 8 true _ _ _ rfl rfl rfl rfl rfl (by kernel_rfl) fun hg R' w' hw hs hd => by have a0 : R' 0 = v0 := (hs 0 rfl).trans h0; exact of_move a0) <|
          Obls.cons (Obl.grd 8 true _ _ _ rfl rfl rfl rfl rfl (by kernel_rfl) fun hg R' w' hw hs hd => by have a0 : R' 3 = .int .i64 y4 := (hs 3 rfl).trans h3; exact of_move a0) <|
          Obls.cons (Obl.grd 8 true _ _ _ rfl rfl rfl rfl rfl (by kernel_rfl) fun hg R' w' hw hs hd => by have a0 : R' 25 = v0 := hd 0 _ _ _ rfl rfl rfl rfl hg; have a1 : R' 26 = .int .i64 y4 := hd 1 _ _ _ rfl rfl rfl rfl hg; have ra0 := (f_v0.fr hw).eq a0; exact of_indexAddr ra0 a1 Try.underlying23 Try.sizeOf9 (gd e9 hg)) <|
          Obls.cons (Obl.grd 8 true _ _ _ rfl rfl rfl rfl rfl (by kernel_rfl) fun hg R' w' hw hs hd => by have a0 : QRep eStr A w' (R' 27) (gtD p0 y4) := hd 0 _ _ _ rfl rfl rfl rfl hg; exact (of_load a0.ptr Try.isAgg9 Try.sizeOf9)) <|
          Obls.cons (Obl.grd 8 true _ _ _ rfl rfl rfl rfl rfl (by kernel_rfl) fun hg R' w' hw hs hd => by have a0 : Rep eStr A w' (R' 24) (gtD p0 (y4 - (1 : Int))) := hd 0 _ _ _ rfl rfl rfl rfl hg; have a1 : Rep eStr A w' (R' 28) (gtD p0 y4) := hd 1 _ _ _ rfl rfl rfl rfl hg; exact of_sgeq a0 a1) <|
          Obls.cons (Obl.grd 5 false _ _ _ rfl rfl rfl rfl rfl (by kernel_rfl) fun hg R' w' hw hs hd => by have a0 : R' 19 = .bool (decide ((0 : Int) < y4)) := hd 0 _ _ _ rfl rfl rfl rfl hg; exact of_pick (decide ((0 : Int) < y4)) a0 (fun hc => by have a1 : R' 29 = .bool (!(bLt (gtD p0 (y4 - (1 : Int))) (gtD p0 y4))) := hd 1 _ _ _ rfl rfl rfl rfl (g_and hg (beq_of hc)); show _ = Value.bool x10; rw [q11, hc]; exact a1) (fun hc => by show _ = Value.bool x10; rw [q11, hc]; exact rfl)) <|
          Obls.cons (Obl.plain rfl rfl fun R' w' hw hs hd => by have a0 : R' 16 = .bool ((gtD p0 y4) == ([] : List UInt8)) := hd 0 _ _ _ rfl rfl rfl rfl rfl; exact of_pick ((gtD p0 y4) == ([] : List UInt8)) a0 (fun hc => by show _ = Value.bool x12; rw [q13, hc]; exact rfl) (fun hc => by have a2 : R' 30 = .bool x10 := hd 1 _ _ _ rfl rfl rfl rfl (g_and rfl (beq_of hc)); show _ = Value.bool x12; rw [q13, hc]; exact a2)) <|
          Obls.nil
      intro R w hw hs hF'
      replace h0 : R 0 = v0 := (hs 0 rfl).trans h0
      replace h3 : R 3 = .int .i64 y4 := (hs 3 rfl).trans h3
      have h31 : R 31 = .bool x12 := hF' 20 _ _ rfl rfl rfl
      replace f_v0 := f_v0.fr hw
      replace hA := hA.fr hw.size
      replace hF := hF.trans hw
      clear hs hF' hw
      refine seqR_nil ?_
      refine HT.cond x12 h31 (fun c14 => ?_) (fun c14 => ?_)
      · have hr := cnd_t c14 hr
        refine HT.seq ?_
        refine HT.text (l := ⟨_, true, .raw (.bool false)⟩ :: []) (tl := []) (by kernel_rfl) (by kernel_rfl) (by kernel_rfl) ?_ ?_
        · exact
            Obls.cons (Obl.plain rfl rfl fun R' w' hw hs hd => by exact of_assign rfl) <|
            Obls.nil
        intro R w hw hs hF'
        have h2 : R 2 = .bool false := hF' 0 _ _ rfl rfl rfl
        replace hA := hA.fr hw.size
        replace hF := hF.trans hw
        clear hs hF' hw
        refine seqR_nil ?_
        refine HT.ret ?_
        obtain rfl := Option.some.inj hr
        have hr := hr0
        replace hr : some _ = some _ := hr
        obtain rfl := Option.some.inj hr
        exact ⟨.inr rfl, [R 2], ⟨rfl, trivial⟩, h2, hF⟩
      · have hr := cnd_f c14 hr
        refine HT.skip ?_
        refine HT.seq ?_
        refine HT.text (l := ⟨_, true, .raw (.int .i64 (0 : Int))⟩ :: []) (tl := []) (by kernel_rfl) (by kernel_rfl) (by kernel_rfl) ?_ ?_
        · exact
            Obls.cons (Obl.plain rfl rfl fun R' w' hw hs hd => by exact of_assign rfl) <|
            Obls.nil
        intro R w hw hs hF'
        replace h0 : R 0 = v0 := (hs 0 rfl).trans h0
        replace h3 : R 3 = .int .i64 y4 := (hs 3 rfl).trans h3
        have h4 : R 4 = .int .i64 (0 : Int) := hF' 0 _ _ rfl rfl rfl
        replace f_v0 := f_v0.fr hw
        replace hA := hA.fr hw.size
        replace hF := hF.trans hw
        clear hs hF' hw
        refine seqR_nil ?_
        obtain ⟨rl15, q16, hr⟩ := cl_some hr
        replace q16 := q16 rfl
        refine HT.cut0 (fun R w => ∃ (s17 : Unit), rl15 = Ex.go s17 ∧ AvOK A w ∧ Fr w0 w ∧ R 0 = v0 ∧ R 3 = .int .i64 y4 ∧ Rep (eSl eStr) A w v0 p0) ?_ ?_
        · refine HT.block ?_
          refine HT.loop (fun k R w => ∃ (y18 : Int), M_spec_IsTokenSet_L1 fu p0 y4 k y18 = some rl15 ∧ AvOK A w ∧ Fr w0 w ∧ R 0 = v0 ∧ R 3 = .int .i64 y4 ∧ R 4 = .int .i64 y18 ∧ Rep (eSl eStr) A w v0 p0) fu ⟨_, q16, hA, hF, h0, h3, h4, f_v0⟩ ?_
          have hr1 := hr; clear hr q16
          rintro k R w ⟨y18, hr, hA, hF, h0, h3, h4, f_v0⟩
          rcases k with _ | k
          · cases (show none = some _ from hr)
          rw [M_spec_IsTokenSet_L1] at hr
          refine HT.seq ?_
          refine HT.seq ?_
          obtain ⟨e19, hr⟩ := ck_some hr
          refine HT.text (l := ⟨_, true, .raw (.int .i64 y18)⟩ :: ⟨_, true, .raw v0⟩ :: ⟨_, true, .raw (.int .i64 y4)⟩ :: ⟨_, true, .qtr eStr A (gtD p0 y4)⟩ :: ⟨_, true, .rep eStr A (gtD p0 y4)⟩ :: ⟨_, true, .raw (.int .i64 ((gtD p0 y4).length : Int))⟩ :: ⟨_, true, .raw (.bool (decide (y18 < ((gtD p0 y4).length : Int))))⟩ :: []) (tl := []) (by kernel_rfl) (by kernel_rfl) (by kernel_rfl) ?_ ?_
          · exact
              Obls.cons (Obl.plain rfl rfl fun R' w' hw hs hd => by have a0 : R' 4 = .int .i64 y18 := (hs 4 rfl).trans h4; exact of_move a0) <|
              Obls.cons (Obl.plain rfl rfl fun R' w' hw hs hd => by have a0 : R' 0 = v0 := (hs 0 rfl).trans h0; exact of_move a0) <|
              Obls.cons (Obl.plain rfl rfl fun R' w' hw hs hd => by have a0 : R' 3 = .int .i64 y4 := (hs 3 rfl).trans h3; exact of_move a0) <|
              Obls.cons (Obl.plain rfl rfl fun R' w' hw hs hd => by have a0 : R' 33 = v0 := hd 0 _ _ _ rfl rfl rfl rfl rfl; have a1 : R' 34 = .int .i64 y4 := hd 1 _ _ _ rfl rfl rfl rfl rfl; have ra0 := (f_v0.fr hw).eq a0; exact of_indexAddr ra0 a1 Try.underlying23 Try.sizeOf9 e19) <|
              Obls.cons (Obl.plain rfl rfl fun R' w' hw hs hd => by have a0 : QRep eStr A w' (R' 35) (gtD p0 y4) := hd 0 _ _ _ rfl rfl rfl rfl rfl; exact (of_load a0.ptr Try.isAgg9 Try.sizeOf9)) <|
              Obls.cons (Obl.plain rfl rfl fun R' w' hw hs hd => by have a0 : Rep eStr A w' (R' 36) (gtD p0 y4) := hd 0 _ _ _ rfl rfl rfl rfl rfl; exact of_len_str a0 Try.underlying9) <|
              Obls.cons (Obl.plain rfl rfl fun R' w' hw hs hd => by have a0 : R' 32 = .int .i64 y18 := hd 0 _ _ _ rfl rfl rfl rfl rfl; have a1 : R' 37 = .int .i64 ((gtD p0 y4).length : Int) := hd 1 _ _ _ rfl rfl rfl rfl rfl; exact of_lss a0 a1) <|
              Obls.nil
          intro R w hw hs hF'
          replace h0 : R 0 = v0 := (hs 0 rfl).trans h0
          replace h3 : R 3 = .int .i64 y4 := (hs 3 rfl).trans h3
          replace h4 : R 4 = .int .i64 y18 := (hs 4 rfl).trans h4
          have h38 : R 38 = .bool (decide (y18 < ((gtD p0 y4).length : Int))) := hF' 6 _ _ rfl rfl rfl
          replace f_v0 := f_v0.fr hw
          replace hA := hA.fr hw.size
          replace hF := hF.trans hw
          clear hs hF' hw
          refine seqR_nil ?_
          refine HT.cond (decide (y18 < ((gtD p0 y4).length : Int))) h38 (fun c20 => ?_) (fun c20 => ?_)
          · have hr := cnd_t c20 hr
            refine HT.skip ?_
            refine HT.seq ?_
            refine HT.block ?_
            refine HT.seq ?_
            obtain ⟨e21, hr⟩ := ck_some hr
            obtain ⟨e22, hr⟩ := ck_some hr
            obtain ⟨x23, q24, hr⟩ := cl_some hr
            obtain ⟨e25, hr⟩ := ck_some hr
            obtain ⟨x26, q27, hr⟩ := cl_some hr
            obtain ⟨e28, hr⟩ := ck_some hr
            obtain ⟨x29, q30, hr⟩ := bd_some hr
            refine HT.draw (by kernel_rfl) (l := ⟨_, true, .raw v0⟩ :: ⟨_, true, .raw (.int .i64 y4)⟩ :: ⟨_, true, .qtr eStr A (gtD p0 y4)⟩ :: ⟨_, true, .rep eStr A (gtD p0 y4)⟩ :: ⟨_, true, .raw (.int .i64 y18)⟩ :: ⟨_, true, .raw (.int .u8 (bAt (gtD p0 y4) y18))⟩ :: ⟨_, true, .raw (.bool x23)⟩ :: ⟨_, true, .raw (.bool (!x23))⟩ :: ⟨_, true, .raw (.bool (!x23))⟩ :: ⟨_, (true && ((!x23) == false)), .raw v0⟩ :: ⟨_, (true && ((!x23) == false)), .raw (.int .i64 y4)⟩ :: ⟨_, (true && ((!x23) == false)), .qtr eStr A (gtD p0 y4)⟩ :: ⟨_, (true && ((!x23) == false)), .rep eStr A (gtD p0 y4)⟩ :: ⟨_, (true && ((!x23) == false)), .rep eStr A x26⟩ :: ⟨_, (true && ((!x23) == false)), .raw v0⟩ :: ⟨_, (true && ((!x23) == false)), .raw (.int .i64 y4)⟩ :: ⟨_, (true && ((!x23) == false)), .qtr eStr A (gtD p0 y4)⟩ :: ⟨_, (true && ((!x23) == false)), .rep eStr A (gtD p0 y4)⟩ :: ⟨_, (true && ((!x23) == false)), .raw (.bool (!(x26 == (gtD p0 y4))))⟩ :: ⟨_, true, .raw (.bool x29)⟩ :: []) (tl := []) (by kernel_rfl) (by kernel_rfl) (by kernel_rfl) (by kernel_rfl) ?_ ?_
            · exact
                Obls.cons (Obl.plain rfl rfl fun R' w' hw hs hd => by have a0 : R' 0 = v0 := (hs 0 rfl).trans h0; exact of_move a0) <|
                Obls.cons (Obl.plain rfl rfl fun R' w' hw hs hd => by have a0 : R' 3 = .int .i64 y4 := (hs 3 rfl).trans h3; exact of_move a0) <|
                Obls.cons (Obl.plain rfl rfl fun R' w' hw hs hd => by have a0 : R' 41 = v0 := hd 0 _ _ _ rfl rfl rfl rfl rfl; have a1 : R' 42 = .int .i64 y4 := hd 1 _ _ _ rfl rfl rfl rfl rfl; have ra0 := (f_v0.fr hw).eq a0; exact of_indexAddr ra0 a1 Try.underlying23 Try.sizeOf9 e21) <|
                Obls.cons (Obl.plain rfl rfl fun R' w' hw hs hd => by have a0 : QRep eStr A w' (R' 43) (gtD p0 y4) := hd 0 _ _ _ rfl rfl rfl rfl rfl; exact (of_load a0.ptr Try.isAgg9 Try.sizeOf9)) <|
                Obls.cons (Obl.plain rfl rfl fun R' w' hw hs hd => by have a0 : R' 4 = .int .i64 y18 := (hs 4 rfl).trans h4; exact of_move a0) <|
                Obls.cons (Obl.plain rfl rfl fun R' w' hw hs hd => by have a0 : Rep eStr A w' (R' 44) (gtD p0 y4) := hd 0 _ _ _ rfl rfl rfl rfl rfl; have a1 : R' 45 = .int .i64 y18 := hd 1 _ _ _ rfl rfl rfl rfl rfl; exact of_strIndex a0 a1 Try.underlying9 e22) <|
                Obls.cons (Obl.plain rfl rfl fun R' w' hw hs hd => by have a0 : R' 46 = .int .u8 (bAt (gtD p0 y4) y18) := hd 0 _ _ _ rfl rfl rfl rfl rfl; exact of_call Try.call108 (M_spec_l2Word_ok (q24 rfl) (hA.fr hw.size) a0)) <|
                Obls.cons (Obl.plain rfl rfl fun R' w' hw hs hd => by have a0 : R' 47 = .bool x23 := hd 0 _ _ _ rfl rfl rfl rfl rfl; exact of_not a0) <|
                Obls.cons (Obl.plain rfl rfl fun R' w' hw hs hd => by have a0 : R' 48 = .bool (!x23) := hd 0 _ _ _ rfl rfl rfl rfl rfl; exact of_move a0) <|
                Obls.cons (Obl.grd 8 false _ _ _ rfl rfl rfl rfl rfl (by kernel_rfl) fun hg R' w' hw hs hd => by have a0 : R' 0 = v0 := (hs 0 rfl).trans h0; exact of_move a0) <|
                Obls.cons (Obl.grd 8 false _ _ _ rfl rfl rfl rfl rfl (by kernel_rfl) fun hg R' w' hw hs hd => by have a0 : R' 3 = .int .i64 y4 := (hs 3 rfl).trans h3; exact of_move a0) <|
                Obls.cons (Obl.grd 8 false _ _ _ rfl rfl rfl rfl rfl (by kernel_rfl) fun hg R' w' hw hs hd => by have a0 : R' 50 = v0 := hd 0 _ _ _ rfl rfl rfl rfl hg; have a1 : R' 51 = .int .i64 y4 := hd 1 _ _ _ rfl rfl rfl rfl hg; have ra0 := (f_v0.fr hw).eq a0; exact of_indexAddr ra0 a1 Try.underlying23 Try.sizeOf9 (gd e25 hg)) <|
                Obls.cons (Obl.grd 8 false _ _ _ rfl rfl rfl rfl rfl (by kernel_rfl) fun hg R' w' hw hs hd => by have a0 : QRep eStr A w' (R' 52) (gtD p0 y4) := hd 0 _ _ _ rfl rfl rfl rfl hg; exact (of_load a0.ptr Try.isAgg9 Try.sizeOf9)) <|
                Obls.cons (Obl.grd 8 false _ _ _ rfl rfl rfl rfl rfl (by kernel_rfl) fun hg R' w' hw hs hd => by have a0 : Rep eStr A w' (R' 53) (gtD p0 y4) := hd 0 _ _ _ rfl rfl rfl rfl hg; exact of_call Try.call109 (M_spec_FoldCase_ok (q27 hg) (hA.fr hw.size) a0)) <|
                Obls.cons (Obl.grd 8 false _ _ _ rfl rfl rfl rfl rfl (by kernel_rfl) fun hg R' w' hw hs hd => by have a0 : R' 0 = v0 := (hs 0 rfl).trans h0; exact of_move a0) <|
                Obls.cons (Obl.grd 8 false _ _ _ rfl rfl rfl rfl rfl (by kernel_rfl) fun hg R' w' hw hs hd => by have a0 : R' 3 = .int .i64 y4 := (hs 3 rfl).trans h3; exact of_move a0) <|
                Obls.cons (Obl.grd 8 false _ _ _ rfl rfl rfl rfl rfl (by kernel_rfl) fun hg R' w' hw hs hd => by have a0 : R' 55 = v0 := hd 0 _ _ _ rfl rfl rfl rfl hg; have a1 : R' 56 = .int .i64 y4 := hd 1 _ _ _ rfl rfl rfl rfl hg; have ra0 := (f_v0.fr hw).eq a0; exact of_indexAddr ra0 a1 Try.underlying23 Try.sizeOf9 (gd e28 hg)) <|
                Obls.cons (Obl.grd 8 false _ _ _ rfl rfl rfl rfl rfl (by kernel_rfl) fun hg R' w' hw hs hd => by have a0 : QRep eStr A w' (R' 57) (gtD p0 y4) := hd 0 _ _ _ rfl rfl rfl rfl hg; exact (of_load a0.ptr Try.isAgg9 Try.sizeOf9)) <|
                Obls.cons (Obl.grd 8 false _ _ _ rfl rfl rfl rfl rfl (by kernel_rfl) fun hg R' w' hw hs hd => by have a0 : Rep eStr A w' (R' 54) x26 := hd 0 _ _ _ rfl rfl rfl rfl hg; have a1 : Rep eStr A w' (R' 58) (gtD p0 y4) := hd 1 _ _ _ rfl rfl rfl rfl hg; exact of_sneq a0 a1) <|
                Obls.cons (Obl.plain rfl rfl fun R' w' hw hs hd => by have a0 : R' 49 = .bool (!x23) := hd 0 _ _ _ rfl rfl rfl rfl rfl; exact of_pick (!x23) a0 (fun hc => by show _ = Value.bool x29; rw [q30, hc]; exact rfl) (fun hc => by have a2 : R' 59 = .bool (!(x26 == (gtD p0 y4))) := hd 1 _ _ _ rfl rfl rfl rfl (g_and rfl (beq_of hc)); show _ = Value.bool x29; rw [q30, hc]; exact a2)) <|
                Obls.nil
            intro R w hw hs hF'
            replace h0 : R 0 = v0 := (hs 0 rfl).trans h0
            replace h3 : R 3 = .int .i64 y4 := (hs 3 rfl).trans h3
            replace h4 : R 4 = .int .i64 y18 := (hs 4 rfl).trans h4
            have h60 : R 60 = .bool x29 := hF' 19 _ _ rfl rfl rfl
            replace f_v0 := f_v0.fr hw
            replace hA := hA.fr hw.size
            replace hF := hF.trans hw
            clear hs hF' hw
            refine seqR_nil ?_
            refine HT.cond x29 h60 (fun c31 => ?_) (fun c31 => ?_)
            · have hr := cnd_t c31 hr
              refine HT.seq ?_
              refine HT.text (l := ⟨_, true, .raw (.bool false)⟩ :: []) (tl := []) (by kernel_rfl) (by kernel_rfl) (by kernel_rfl) ?_ ?_
              · exact
                  Obls.cons (Obl.plain rfl rfl fun R' w' hw hs hd => by exact of_assign rfl) <|
                  Obls.nil
              intro R w hw hs hF'
              have h2 : R 2 = .bool false := hF' 0 _ _ rfl rfl rfl
              replace hA := hA.fr hw.size
              replace hF := hF.trans hw
              clear hs hF' hw
              refine seqR_nil ?_
              refine HT.ret ?_
              obtain rfl := Option.some.inj hr
              have hr := hr1
              replace hr : some _ = some _ := hr
              obtain rfl := Option.some.inj hr
              have hr := hr0
              replace hr : some _ = some _ := hr
              obtain rfl := Option.some.inj hr
              exact ⟨.inr rfl, [R 2], ⟨rfl, trivial⟩, h2, hF⟩
            · have hr := cnd_f c31 hr
              refine HT.skip ?_
              obtain ⟨e32, hr⟩ := ck_some hr
              refine HT.text (l := ⟨_, true, .raw (.int .i64 y18)⟩ :: ⟨_, true, .raw (.int .i64 (y18 + (1 : Int)))⟩ :: ⟨_, true, .raw (.int .i64 (y18 + (1 : Int)))⟩ :: []) (tl := []) (by kernel_rfl) (by kernel_rfl) (by kernel_rfl) ?_ ?_
              · exact
                  Obls.cons (Obl.plain rfl rfl fun R' w' hw hs hd => by have a0 : R' 4 = .int .i64 y18 := (hs 4 rfl).trans h4; exact of_move a0) <|
                  Obls.cons (Obl.plain rfl rfl fun R' w' hw hs hd => by have a0 : R' 39 = .int .i64 y18 := hd 0 _ _ _ rfl rfl rfl rfl rfl; exact of_add a0 rfl e32) <|
                  Obls.cons (Obl.plain rfl rfl fun R' w' hw hs hd => by have a0 : R' 40 = .int .i64 (y18 + (1 : Int)) := hd 0 _ _ _ rfl rfl rfl rfl rfl; exact of_assign a0) <|
                  Obls.nil
              intro R w hw hs hF'
              replace h0 : R 0 = v0 := (hs 0 rfl).trans h0
              replace h3 : R 3 = .int .i64 y4 := (hs 3 rfl).trans h3
              have h4 : R 4 = .int .i64 (y18 + (1 : Int)) := hF' 2 _ _ rfl rfl rfl
              replace f_v0 := f_v0.fr hw
              replace hA := hA.fr hw.size
              replace hF := hF.trans hw
              clear hs hF' hw
              refine seqR_nil ?_
              exact Exists.intro k (And.intro (Nat.lt_succ_self k) ⟨_, hr, hA, hF, h0, h3, h4, f_v0⟩)
          · have hr := cnd_f c20 hr
            refine HT.exit ?_
            obtain rfl := Option.some.inj hr
            exact Exists.intro _ ⟨rfl, hA, hF, h0, h3, f_v0⟩
        rintro R w ⟨s17, rfl, hA, hF, h0, h3, f_v0⟩
        have hr := exM_go hr
        obtain ⟨e33, hr⟩ := ck_some hr
        refine HT.text (l := ⟨_, true, .raw (.int .i64 y4)⟩ :: ⟨_, true, .raw (.int .i64 (y4 + (1 : Int)))⟩ :: ⟨_, true, .raw (.int .i64 (y4 + (1 : Int)))⟩ :: []) (tl := []) (by kernel_rfl) (by kernel_rfl) (by kernel_rfl) ?_ ?_
        · exact
            Obls.cons (Obl.plain rfl rfl fun R' w' hw hs hd => by have a0 : R' 3 = .int .i64 y4 := (hs 3 rfl).trans h3; exact of_move a0) <|
            Obls.cons (Obl.plain rfl rfl fun R' w' hw hs hd => by have a0 : R' 9 = .int .i64 y4 := hd 0 _ _ _ rfl rfl rfl rfl rfl; exact of_add a0 rfl e33) <|
            Obls.cons (Obl.plain rfl rfl fun R' w' hw hs hd => by have a0 : R' 10 = .int .i64 (y4 + (1 : Int)) := hd 0 _ _ _ rfl rfl rfl rfl rfl; exact of_assign a0) <|
            Obls.nil
        intro R w hw hs hF'
        replace h0 : R 0 = v0 := (hs 0 rfl).trans h0
        have h3 : R 3 = .int .i64 (y4 + (1 : Int)) := hF' 2 _ _ rfl rfl rfl
        replace f_v0 := f_v0.fr hw
        replace hA := hA.fr hw.size
        replace hF := hF.trans hw
        clear hs hF' hw
        refine seqR_nil ?_
        exact Exists.intro k (And.intro (Nat.lt_succ_self k) ⟨_, hr, hA, hF, h0, h3, f_v0⟩)
    · have hr := cnd_f c5 hr
      refine HT.exit ?_
      obtain rfl := Option.some.inj hr
      exact Exists.intro _ ⟨rfl, hA, hF⟩
  rintro R w ⟨s3, rfl, hA, hF⟩
  have hr := exM_go hr
  refine HT.seq ?_
  refine HT.text (l := ⟨_, true, .raw (.bool true)⟩ :: []) (tl := []) (by kernel_rfl) (by kernel_rfl) (by kernel_rfl) ?_ ?_
  · exact
      Obls.cons (Obl.plain rfl rfl fun R' w' hw hs hd => by exact of_assign rfl) <|
      Obls.nil
  intro R w hw hs hF'
  have h2 : R 2 = .bool true := hF' 0 _ _ rfl rfl rfl
  replace hA := hA.fr hw.size
  replace hF := hF.trans hw
  clear hs hF' hw
  refine seqR_nil ?_
  refine HT.ret ?_
  obtain rfl := Option.some.inj hr
  exact ⟨.inr rfl, [R 2], ⟨rfl, trivial⟩, h2, hF⟩
def M_spec_TokenFrequency_L0 (fu : Nat) (p0 : List T_impl_TokenCount) (p1 : List UInt8) : Nat → Int → Option (Ex Int Unit)
  | 0, _ => none
  | k + 1, y4 =>
    bif (decide (y4 < (p0.length : Int))) then (
      ck (inR y4 p0.length) <|
      bif (((gtD p0 y4).1) == p1) then (
        ck (inR y4 p0.length) <|
        some (Ex.ret ((gtD p0 y4).2))
      ) else (
        ck (i64B (y4 + (1 : Int))) <|
        M_spec_TokenFrequency_L0 fu p0 p1 k (y4 + (1 : Int))
      )
    ) else (
      some (Ex.go ())
    )
def M_spec_TokenFrequency (fu : Nat) (p0 : List T_impl_TokenCount) (p1 : List UInt8) : Option Int :=
  cl true (M_spec_TokenFrequency_L0 fu p0 p1 fu (0 : Int)) fun rl1 =>
  exM rl1 (fun r => some r) fun s3 =>
  some (0 : Int)
set_option maxRecDepth 100000 in
set_option maxHeartbeats 4000000 in
theorem M_spec_TokenFrequency_ok {fu : Nat} {A : Av} {p0 : List T_impl_TokenCount} {p1 : List UInt8} {r : Int} (hr : M_spec_TokenFrequency fu p0 p1 = some r) {w : World} {v0 : Value} {v1 : Value} (hA : AvOK A w) (h0 : Rep (eSl E_impl_TokenCount) A w v0 p0) (h1 : Rep eStr A w v1 p1) :
    Calls Try.prog 59 #[v0, v1] w fun e w' => ∃ v, e = .returned v ∧ (v = .int .i64 r ∧ Fr w w') := by
  unfold M_spec_TokenFrequency at hr
  obtain ⟨w0, hw0⟩ : ∃ w0, w0 = w := ⟨_, rfl⟩
  have hF : Fr w0 w := hw0 ▸ Fr.refl _
  rw [show Fr w = Fr w0 from hw0 ▸ rfl]
  clear hw0
  refine calls_of_HT2 [.tmp 4] Try.func59 Try.ntmps59 (by decide) rfl rfl (Nat.le_of_ble_eq_true rfl) ?_
  intro R hR
  have f_v0 := h0
  replace h0 : R 0 = v0 := hR 0 _ rfl
  have f_v1 := h1
  replace h1 : R 1 = v1 := hR 1 _ rfl
  clear hR
  refine HT.seq ?_
  refine HT.text (l := ⟨_, true, .raw (.int .i64 (0 : Int))⟩ :: []) (tl := []) (by kernel_rfl) (by kernel_rfl) (by kernel_rfl) ?_ ?_
  · exact
      Obls.cons (Obl.plain rfl rfl fun R' w' hw hs hd => by exact of_assign rfl) <|
      Obls.nil
  intro R w hw hs hF'
  replace h0 : R 0 = v0 := (hs 0 rfl).trans h0
  replace h1 : R 1 = v1 := (hs 1 rfl).trans h1
  replace f_v0 := f_v0.fr hw
  replace f_v1 := f_v1.fr hw
  replace hA := hA.fr hw.size
  replace hF := hF.trans hw
  clear hs hF' hw
  refine seqR_nil ?_
  refine HT.seq ?_
  refine HT.seq ?_
  refine HT.text (l := ⟨_, true, .raw (.int .i64 (0 : Int))⟩ :: []) (tl := []) (by kernel_rfl) (by kernel_rfl) (by kernel_rfl) ?_ ?_
  · exact
      Obls.cons (Obl.plain rfl rfl fun R' w' hw hs hd => by exact of_assign rfl) <|
      Obls.nil
  intro R w hw hs hF'
  replace h0 : R 0 = v0 := (hs 0 rfl).trans h0
  replace h1 : R 1 = v1 := (hs 1 rfl).trans h1
  have h5 : R 5 = .int .i64 (0 : Int) := hF' 0 _ _ rfl rfl rfl
  replace f_v0 := f_v0.fr hw
  replace f_v1 := f_v1.fr hw
  replace hA := hA.fr hw.size
  replace hF := hF.trans hw
  clear hs hF' hw
  refine seqR_nil ?_
  obtain ⟨rl1, q2, hr⟩ := cl_some hr
  replace q2 := q2 rfl
  refine HT.cut0 (fun R w => ∃ (s3 : Unit), rl1 = Ex.go s3 ∧ AvOK A w ∧ Fr w0 w) ?_ ?_
  · refine HT.block ?_
    refine HT.loop (fun k R w => ∃ (y4 : Int), M_spec_TokenFrequency_L0 fu p0 p1 k y4 = some rl1 ∧ AvOK A w ∧ Fr w0 w ∧ R 0 = v0 ∧ R 1 = v1 ∧ R 5 = .int .i64 y4 ∧ Rep (eSl E_impl_TokenCount) A w v0 p0 ∧ Rep eStr A w v1 p1) fu ⟨_, q2, hA, hF, h0, h1, h5, f_v0, f_v1⟩ ?_
    have hr0 := hr; clear hr q2
    rintro k R w ⟨y4, hr, hA, hF, h0, h1, h5, f_v0, f_v1⟩
    rcases k with _ | k
    · cases (show none = some _ from hr)
    rw [M_spec_TokenFrequency_L0] at hr
    refine HT.seq ?_
    refine HT.seq ?_
    refine HT.text (l := ⟨_, true, .raw (.int .i64 y4)⟩ :: ⟨_, true, .raw v0⟩ :: ⟨_, true, .raw (.int .i64 (p0.length : Int))⟩ :: ⟨_, true, .raw (.bool (decide (y4 < (p0.length : Int))))⟩ :: []) (tl := []) (by kernel_rfl) (by kernel_rfl) (by kernel_rfl) ?_ ?_
    · exact
        Obls.cons (Obl.plain rfl rfl fun R' w' hw hs hd => by have a0 : R' 5 = .int .i64 y4 := (hs 5 rfl).trans h5; exact of_move a0) <|
        Obls.cons (Obl.plain rfl rfl fun R' w' hw hs hd => by have a0 : R' 0 = v0 := (hs 0 rfl).trans h0; exact of_move a0) <|
        Obls.cons (Obl.plain rfl rfl fun R' w' hw hs hd => by have a0 : R' 7 = v0 := hd 0 _ _ _ rfl rfl rfl rfl rfl; have ra0 := (f_v0.fr hw).eq a0; exact of_len_sl (aT := #[]) ra0 Try.underlying27) <|
        Obls.cons (Obl.plain rfl rfl fun R' w' hw hs hd => by have a0 : R' 6 = .int .i64 y4 := hd 0 _ _ _ rfl rfl rfl rfl rfl; have a1 : R' 8 = .int .i64 (p0.length : Int) := hd 1 _ _ _ rfl rfl rfl rfl rfl; exact of_lss a0 a1) <|
        Obls.nil
    intro R w hw hs hF'
    replace h0 : R 0 = v0 := (hs 0 rfl).trans h0
    replace h1 : R 1 = v1 := (hs 1 rfl).trans h1
    replace h5 : R 5 = .int .i64 y4 := (hs 5 rfl).trans h5
    have h9 : R 9 = .bool (decide (y4 < (p0.length : Int))) := hF' 3 _ _ rfl rfl rfl
    replace f_v0 := f_v0.fr hw
    replace f_v1 := f_v1.fr hw
    replace hA := hA.fr hw.size
    replace hF := hF.trans hw
    clear hs hF' hw
    refine seqR_nil ?_
    refine HT.cond (decide (y4 < (p0.length : Int))) h9 (fun c5 => ?_) (fun c5 => ?_)
    · have hr := cnd_t c5 hr
      refine HT.skip ?_
      refine HT.seq ?_
      refine HT.block ?_
      refine HT.seq ?_
      obtain ⟨e6, hr⟩ := ck_some hr
      refine HT.text (l := ⟨_, true, .raw v0⟩ :: ⟨_, true, .raw (.int .i64 y4)⟩ :: ⟨_, true, .qtr E_impl_TokenCount A (gtD p0 y4)⟩ :: ⟨_, true, .qtr eStr A ((gtD p0 y4).1)⟩ :: ⟨_, true, .rep eStr A ((gtD p0 y4).1)⟩ :: ⟨_, true, .raw v1⟩ :: ⟨_, true, .raw (.bool (((gtD p0 y4).1) == p1))⟩ :: []) (tl := []) (by kernel_rfl) (by kernel_rfl) (by kernel_rfl) ?_ ?_
      · exact
          Obls.cons (Obl.plain rfl rfl fun R' w' hw hs hd => by have a0 : R' 0 = v0 := (hs 0 rfl).trans h0; exact of_move a0) <|
          Obls.cons (Obl.plain rfl rfl fun R' w' hw hs hd => by have a0 : R' 5 = .int .i64 y4 := (hs 5 rfl).trans h5; exact of_move a0) <|
          Obls.cons (Obl.plain rfl rfl fun R' w' hw hs hd => by have a0 : R' 12 = v0 := hd 0 _ _ _ rfl rfl rfl rfl rfl; have a1 : R' 13 = .int .i64 y4 := hd 1 _ _ _ rfl rfl rfl rfl rfl; have ra0 := (f_v0.fr hw).eq a0; exact of_indexAddr ra0 a1 Try.underlying27 Try.sizeOf76 e6) <|
          Obls.cons (Obl.plain rfl rfl fun R' w' hw hs hd => by have a0 : QRep E_impl_TokenCount A w' (R' 14) (gtD p0 y4) := hd 0 _ _ _ rfl rfl rfl rfl rfl; exact of_fieldAddr_q a0 ff_76_0 Try.sizeOf9 (by decide) fl_impl_TokenCount_0 rfl) <|
          Obls.cons (Obl.plain rfl rfl fun R' w' hw hs hd => by have a0 : QRep eStr A w' (R' 15) ((gtD p0 y4).1) := hd 0 _ _ _ rfl rfl rfl rfl rfl; exact (of_load a0.ptr Try.isAgg9 Try.sizeOf9)) <|
          Obls.cons (Obl.plain rfl rfl fun R' w' hw hs hd => by have a0 : R' 1 = v1 := (hs 1 rfl).trans h1; exact of_move a0) <|
          Obls.cons (Obl.plain rfl rfl fun R' w' hw hs hd => by have a0 : Rep eStr A w' (R' 16) ((gtD p0 y4).1) := hd 0 _ _ _ rfl rfl rfl rfl rfl; have a1 : R' 17 = v1 := hd 1 _ _ _ rfl rfl rfl rfl rfl; have ra1 := (f_v1.fr hw).eq a1; exact of_seql a0 ra1) <|
          Obls.nil
      intro R w hw hs hF'
      replace h0 : R 0 = v0 := (hs 0 rfl).trans h0
      replace h1 : R 1 = v1 := (hs 1 rfl).trans h1
      replace h5 : R 5 = .int .i64 y4 := (hs 5 rfl).trans h5
      have h18 : R 18 = .bool (((gtD p0 y4).1) == p1) := hF' 6 _ _ rfl rfl rfl
      replace f_v0 := f_v0.fr hw
      replace f_v1 := f_v1.fr hw
      replace hA := hA.fr hw.size
      replace hF := hF.trans hw
      clear hs hF' hw
      refine seqR_nil ?_
      refine HT.cond (((gtD p0 y4).1) == p1) h18 (fun c7 => ?_) (fun c7 => ?_)
      · have hr := cnd_t c7 hr
        refine HT.seq ?_
        obtain ⟨e8, hr⟩ := ck_some hr
        refine HT.text (l := ⟨_, true, .raw v0⟩ :: ⟨_, true, .raw (.int .i64 y4)⟩ :: ⟨_, true, .qtr E_impl_TokenCount A (gtD p0 y4)⟩ :: ⟨_, true, .qtr (eInt .i64) A ((gtD p0 y4).2)⟩ :: ⟨_, true, .raw (.int .i64 ((gtD p0 y4).2))⟩ :: ⟨_, true, .raw (.int .i64 ((gtD p0 y4).2))⟩ :: []) (tl := []) (by kernel_rfl) (by kernel_rfl) (by kernel_rfl) ?_ ?_
        · exact
            Obls.cons (Obl.plain rfl rfl fun R' w' hw hs hd => by have a0 : R' 0 = v0 := (hs 0 rfl).trans h0; exact of_move a0) <|
            Obls.cons (Obl.plain rfl rfl fun R' w' hw hs hd => by have a0 : R' 5 = .int .i64 y4 := (hs 5 rfl).trans h5; exact of_move a0) <|
            Obls.cons (Obl.plain rfl rfl fun R' w' hw hs hd => by have a0 : R' 19 = v0 := hd 0 _ _ _ rfl rfl rfl rfl rfl; have a1 : R' 20 = .int .i64 y4 := hd 1 _ _ _ rfl rfl rfl rfl rfl; have ra0 := (f_v0.fr hw).eq a0; exact of_indexAddr ra0 a1 Try.underlying27 Try.sizeOf76 e8) <|
            Obls.cons (Obl.plain rfl rfl fun R' w' hw hs hd => by have a0 : QRep E_impl_TokenCount A w' (R' 21) (gtD p0 y4) := hd 0 _ _ _ rfl rfl rfl rfl rfl; exact of_fieldAddr_q a0 ff_76_1 Try.sizeOf3 (by decide) fl_impl_TokenCount_1 rfl) <|
            Obls.cons (Obl.plain rfl rfl fun R' w' hw hs hd => by have a0 : QRep (eInt .i64) A w' (R' 22) ((gtD p0 y4).2) := hd 0 _ _ _ rfl rfl rfl rfl rfl; exact OpF.int (of_load a0.ptr Try.isAgg3 Try.sizeOf3)) <|
            Obls.cons (Obl.plain rfl rfl fun R' w' hw hs hd => by have a0 : R' 23 = .int .i64 ((gtD p0 y4).2) := hd 0 _ _ _ rfl rfl rfl rfl rfl; exact of_assign a0) <|
            Obls.nil
        intro R w hw hs hF'
        have h4 : R 4 = .int .i64 ((gtD p0 y4).2) := hF' 5 _ _ rfl rfl rfl
        replace hA := hA.fr hw.size
        replace hF := hF.trans hw
        clear hs hF' hw
        refine seqR_nil ?_
        refine HT.ret ?_
        obtain rfl := Option.some.inj hr
        have hr := hr0
        replace hr : some _ = some _ := hr
        obtain rfl := Option.some.inj hr
        exact ⟨.inr rfl, [R 4], ⟨rfl, trivial⟩, h4, hF⟩
      · have hr := cnd_f c7 hr
        refine HT.skip ?_
        obtain ⟨e9, hr⟩ := ck_some hr
        refine HT.text (l := ⟨_, true, .raw (.int .i64 y4)⟩ :: ⟨_, true, .raw (.int .i64 (y4 + (1 : Int)))⟩ :: ⟨_, true, .raw (.int .i64 (y4 + (1 : Int)))⟩ :: []) (tl := []) (by kernel_rfl) (by kernel_rfl) (by kernel_rfl) ?_ ?_
        · exact
            Obls.cons (Obl.plain rfl rfl fun R' w' hw hs hd => by have a0 : R' 5 = .int .i64 y4 := (hs 5 rfl).trans h5; exact of_move a0) <|
            Obls.cons (Obl.plain rfl rfl fun R' w' hw hs hd => by have a0 : R' 10 = .int .i64 y4 := hd 0 _ _ _ rfl rfl rfl rfl rfl; exact of_add a0 rfl e9) <|
            Obls.cons (Obl.plain rfl rfl fun R' w' hw hs hd => by have a0 : R' 11 = .int .i64 (y4 + (1 : Int)) := hd 0 _ _ _ rfl rfl rfl rfl rfl; exact of_assign a0) <|
            Obls.nil
        intro R w hw hs hF'
        replace h0 : R 0 = v0 := (hs 0 rfl).trans h0
        replace h1 : R 1 = v1 := (hs 1 rfl).trans h1
        have h5 : R 5 = .int .i64 (y4 + (1 : Int)) := hF' 2 _ _ rfl rfl rfl
        replace f_v0 := f_v0.fr hw
        replace f_v1 := f_v1.fr hw
        replace hA := hA.fr hw.size
        replace hF := hF.trans hw
        clear hs hF' hw
        refine seqR_nil ?_
        exact Exists.intro k (And.intro (Nat.lt_succ_self k) ⟨_, hr, hA, hF, h0, h1, h5, f_v0, f_v1⟩)
    · have hr := cnd_f c5 hr
      refine HT.exit ?_
      obtain rfl := Option.some.inj hr
      exact Exists.intro _ ⟨rfl, hA, hF⟩
  rintro R w ⟨s3, rfl, hA, hF⟩
  have hr := exM_go hr
  refine HT.seq ?_
  refine HT.text (l := ⟨_, true, .raw (.int .i64 (0 : Int))⟩ :: []) (tl := []) (by kernel_rfl) (by kernel_rfl) (by kernel_rfl) ?_ ?_
  · exact
      Obls.cons (Obl.plain rfl rfl fun R' w' hw hs hd => by exact of_assign rfl) <|
      Obls.nil
  intro R w hw hs hF'
  have h4 : R 4 = .int .i64 (0 : Int) := hF' 0 _ _ rfl rfl rfl
  replace hA := hA.fr hw.size
  replace hF := hF.trans hw
  clear hs hF' hw
  refine seqR_nil ?_
  refine HT.ret ?_
  obtain rfl := Option.some.inj hr
  exact ⟨.inr rfl, [R 4], ⟨rfl, trivial⟩, h4, hF⟩
end Go.Proofs.Ytfcocbokgfmjfaa
