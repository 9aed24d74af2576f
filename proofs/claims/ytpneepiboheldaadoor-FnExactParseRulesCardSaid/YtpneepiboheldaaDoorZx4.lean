/- Own texts laid together. No statement of the seat is proved here. -/
import Derived.Test.YtpneepiboheldaaDoorZx3
/- Printed by dec.py: plain functions and the proofs that the code computes them. No statement of the seat is proved here. -/
namespace Go.Proofs.YtpneepiboheldaaDoor
open Go.RowKit
set_option linter.unusedVariables false
def M_spec_FormatRules_L1 (fu : Nat) (p0 : T_impl_RuleSet) (y11 : Int) : Nat → (List UInt8) → Int → Option (List UInt8)
  | 0, _, _ => none
  | k + 1, y19, y20 =>
    ck (inR y11 p0.length) <|
    bif (decide (y20 < ((gtD p0 y11).length : Int))) then (
      ck (inR y11 p0.length) <|
      ck (inR y20 (gtD p0 y11).length) <|
      bif (decide ((0 : Int) < y20)) then (
        ck (lenOK (y19 ++ ([44] : List UInt8)).length) <|
        cl true (M_spec_FeatureName fu ((gtD (gtD p0 y11) y20).1)) fun x31 =>
        ck (lenOK ((y19 ++ ([44] : List UInt8)) ++ x31).length) <|
        bif (gtD (gtD p0 y11) y20).2.2 then (
          ck (lenOK (((y19 ++ ([44] : List UInt8)) ++ x31) ++ ([60] : List UInt8)).length) <|
          cl true (M_spec_FormatInt fu ((gtD (gtD p0 y11) y20).2.1)) fun x38 =>
          ck (lenOK ((((y19 ++ ([44] : List UInt8)) ++ x31) ++ ([60] : List UInt8)) ++ x38).length) <|
          ck (i64B (y20 + (1 : Int))) <|
          M_spec_FormatRules_L1 fu p0 y11 k ((((y19 ++ ([44] : List UInt8)) ++ x31) ++ ([60] : List UInt8)) ++ x38) (y20 + (1 : Int))
        ) else (
          ck (lenOK (((y19 ++ ([44] : List UInt8)) ++ x31) ++ ([62, 61] : List UInt8)).length) <|
          cl true (M_spec_FormatInt fu ((gtD (gtD p0 y11) y20).2.1)) fun x45 =>
          ck (lenOK ((((y19 ++ ([44] : List UInt8)) ++ x31) ++ ([62, 61] : List UInt8)) ++ x45).length) <|
          ck (i64B (y20 + (1 : Int))) <|
          M_spec_FormatRules_L1 fu p0 y11 k ((((y19 ++ ([44] : List UInt8)) ++ x31) ++ ([62, 61] : List UInt8)) ++ x45) (y20 + (1 : Int))
        )
      ) else (
        cl true (M_spec_FeatureName fu ((gtD (gtD p0 y11) y20).1)) fun x50 =>
        ck (lenOK (y19 ++ x50).length) <|
        bif (gtD (gtD p0 y11) y20).2.2 then (
          ck (lenOK ((y19 ++ x50) ++ ([60] : List UInt8)).length) <|
          cl true (M_spec_FormatInt fu ((gtD (gtD p0 y11) y20).2.1)) fun x57 =>
          ck (lenOK (((y19 ++ x50) ++ ([60] : List UInt8)) ++ x57).length) <|
          ck (i64B (y20 + (1 : Int))) <|
          M_spec_FormatRules_L1 fu p0 y11 k (((y19 ++ x50) ++ ([60] : List UInt8)) ++ x57) (y20 + (1 : Int))
        ) else (
          ck (lenOK ((y19 ++ x50) ++ ([62, 61] : List UInt8)).length) <|
          cl true (M_spec_FormatInt fu ((gtD (gtD p0 y11) y20).2.1)) fun x64 =>
          ck (lenOK (((y19 ++ x50) ++ ([62, 61] : List UInt8)) ++ x64).length) <|
          ck (i64B (y20 + (1 : Int))) <|
          M_spec_FormatRules_L1 fu p0 y11 k (((y19 ++ x50) ++ ([62, 61] : List UInt8)) ++ x64) (y20 + (1 : Int))
        )
      )
    ) else (
      some y19
    )
def M_spec_FormatRules_L2 (fu : Nat) (p0 : T_impl_RuleSet) (y11 : Int) : Nat → (List UInt8) → Int → Option (List UInt8)
  | 0, _, _ => none
  | k + 1, y73, y74 =>
    ck (inR y11 p0.length) <|
    bif (decide (y74 < ((gtD p0 y11).length : Int))) then (
      ck (inR y11 p0.length) <|
      ck (inR y74 (gtD p0 y11).length) <|
      bif (decide ((0 : Int) < y74)) then (
        ck (lenOK (y73 ++ ([44] : List UInt8)).length) <|
        cl true (M_spec_FeatureName fu ((gtD (gtD p0 y11) y74).1)) fun x85 =>
        ck (lenOK ((y73 ++ ([44] : List UInt8)) ++ x85).length) <|
        bif (gtD (gtD p0 y11) y74).2.2 then (
          ck (lenOK (((y73 ++ ([44] : List UInt8)) ++ x85) ++ ([60] : List UInt8)).length) <|
          cl true (M_spec_FormatInt fu ((gtD (gtD p0 y11) y74).2.1)) fun x92 =>
          ck (lenOK ((((y73 ++ ([44] : List UInt8)) ++ x85) ++ ([60] : List UInt8)) ++ x92).length) <|
          ck (i64B (y74 + (1 : Int))) <|
          M_spec_FormatRules_L2 fu p0 y11 k ((((y73 ++ ([44] : List UInt8)) ++ x85) ++ ([60] : List UInt8)) ++ x92) (y74 + (1 : Int))
        ) else (
          ck (lenOK (((y73 ++ ([44] : List UInt8)) ++ x85) ++ ([62, 61] : List UInt8)).length) <|
          cl true (M_spec_FormatInt fu ((gtD (gtD p0 y11) y74).2.1)) fun x99 =>
          ck (lenOK ((((y73 ++ ([44] : List UInt8)) ++ x85) ++ ([62, 61] : List UInt8)) ++ x99).length) <|
          ck (i64B (y74 + (1 : Int))) <|
          M_spec_FormatRules_L2 fu p0 y11 k ((((y73 ++ ([44] : List UInt8)) ++ x85) ++ ([62, 61] : List UInt8)) ++ x99) (y74 + (1 : Int))
        )
      ) else (
        cl true (M_spec_FeatureName fu ((gtD (gtD p0 y11) y74).1)) fun x104 =>
        ck (lenOK (y73 ++ x104).length) <|
        bif (gtD (gtD p0 y11) y74).2.2 then (
          ck (lenOK ((y73 ++ x104) ++ ([60] : List UInt8)).length) <|
          cl true (M_spec_FormatInt fu ((gtD (gtD p0 y11) y74).2.1)) fun x111 =>
          ck (lenOK (((y73 ++ x104) ++ ([60] : List UInt8)) ++ x111).length) <|
          ck (i64B (y74 + (1 : Int))) <|
          M_spec_FormatRules_L2 fu p0 y11 k (((y73 ++ x104) ++ ([60] : List UInt8)) ++ x111) (y74 + (1 : Int))
        ) else (
          ck (lenOK ((y73 ++ x104) ++ ([62, 61] : List UInt8)).length) <|
          cl true (M_spec_FormatInt fu ((gtD (gtD p0 y11) y74).2.1)) fun x118 =>
          ck (lenOK (((y73 ++ x104) ++ ([62, 61] : List UInt8)) ++ x118).length) <|
          ck (i64B (y74 + (1 : Int))) <|
          M_spec_FormatRules_L2 fu p0 y11 k (((y73 ++ x104) ++ ([62, 61] : List UInt8)) ++ x118) (y74 + (1 : Int))
        )
      )
    ) else (
      some y73
    )
def M_spec_FormatRules_L0 (fu : Nat) (p0 : T_impl_RuleSet) : Nat → (List UInt8) → Int → Option (List UInt8)
  | 0, _, _ => none
  | k + 1, y10, y11 =>
    bif (decide (y11 < (p0.length : Int))) then (
      bif (decide ((0 : Int) < y11)) then (
        ck (lenOK (y10 ++ ([32, 111, 114, 32] : List UInt8)).length) <|
        cl true (M_spec_FormatRules_L1 fu p0 y11 fu (y10 ++ ([32, 111, 114, 32] : List UInt8)) (0 : Int)) fun s18 =>
        ck (i64B (y11 + (1 : Int))) <|
        M_spec_FormatRules_L0 fu p0 k s18 (y11 + (1 : Int))
      ) else (
        cl true (M_spec_FormatRules_L2 fu p0 y11 fu y10 (0 : Int)) fun s72 =>
        ck (i64B (y11 + (1 : Int))) <|
        M_spec_FormatRules_L0 fu p0 k s72 (y11 + (1 : Int))
      )
    ) else (
      some y10
    )
def M_spec_FormatRules (fu : Nat) (p0 : T_impl_RuleSet) : Option (List UInt8) :=
  cl true (M_spec_IsValidRules fu p0) fun x2 =>
  bif (!x2) then (
    some ([] : List UInt8)
  ) else (
    cl true (M_spec_FormatRules_L0 fu p0 fu ([] : List UInt8) (0 : Int)) fun s9 =>
    some s9
  )
set_option maxRecDepth 100000 in
set_option maxHeartbeats 4000000 in
theorem M_spec_FormatRules_ok {fu : Nat} {A0 : Av} {p0 : T_impl_RuleSet} {r : List UInt8} (hr : M_spec_FormatRules fu p0 = some r) {w : World} {v0 : Value} (hA : AvOK A0 w) (h0 : Rep E_impl_RuleSet A0 w v0 p0) :
    Calls Tryd.prog 11 #[v0] w fun e w' => ∃ v, e = .returned v ∧ (Rep eStr A0 w' v r ∧ Fr w w') := by
  unfold M_spec_FormatRules at hr
  obtain ⟨w0, hw0⟩ : ∃ w0, w0 = w := ⟨_, rfl⟩
  have hF : Fr w0 w := hw0 ▸ Fr.refl _
  have hA0 : ∀ b o, A0 b o → b < w0.heap.size := fun b o h => hw0 ▸ hA b o h
  have hA00 : AvOK A0 w0 := hA0
  rw [show Fr w = Fr w0 from hw0 ▸ rfl]
  clear hw0
  obtain ⟨A, hAe⟩ : ∃ A, A = A0 := ⟨_, rfl⟩
  have hAA : ∀ b o, A0 b o → A b o := fun b o h => hAe ▸ h
  replace hA : AvOK A w := hAe ▸ hA
  have hO : IniOK [] A w := IniOK.nil
  refine calls_of_HT2 [.tmp 2] Tryd.func11 Tryd.ntmps11 (by decide) rfl rfl (Nat.le_of_ble_eq_true rfl) ?_
  intro R hR
  have f_v0 : Rep E_impl_RuleSet A w v0 p0 := hAe ▸ h0
  replace h0 : R 0 = v0 := hR 0 _ rfl
  clear hR hAe
  refine HT.seq ?_
  refine HT.textR [] (⟨_, true, [], some (.box w0.heap.size 24 E_impl_RuleSet p0), true, fun A => .any⟩ :: ⟨_, true, [], none, true, fun A => .rep eStr A ([] : List UInt8)⟩ :: []) (by kernel_rfl) (by kernel_rfl) (Wf.mk' (by kernel_rfl) (UAll.cons ust_any (UAll.cons ust_rep (UAll.nil))) (by kernel_rfl) (by kernel_rfl)) hO hA ?_ ?_
  · exact
      OblsR.cons (OblR.made _ rfl rfl rfl rfl fun A' R' w' ho hd => by have a0 : R' 0 = v0 := (ho.old 0 rfl).trans h0; have ra0 := (f_v0.stp ho.stp).eq a0; exact made_box ra0 (Nat.le_trans hF.size ho.ch.size)) <|
      OblsR.cons (OblR.plain rfl rfl rfl rfl fun A' R' w' ho hd => by exact of_assign ⟨_, rfl, ⟨_, rfl, rfl, by decide⟩⟩) <|
      OblsR.nil
  intro done ρ σ A R w hdn hI
  obtain ⟨b1_0, e_b1_0⟩ := hI.boxv hdn 0 rfl rfl
  have h1 : R 1 = (.pointer (some ⟨b1_0, 0, none⟩)) := (hI.opvR hdn 0 0 rfl rfl rfl rfl rfl).symm.trans e_b1_0
  replace hAA := hI.low' hAA hA0 (hO.ge (trivial))
  replace hF : Fr w0 w := hF.tr hI.ch (hO.ge (trivial))
  replace hO : IniOK [ob (.pointer (some ⟨b1_0, 0, none⟩)) (.box w0.heap.size 24 E_impl_RuleSet p0)] A w := hI.left hdn [(0, ob (.pointer (some ⟨b1_0, 0, none⟩)) (.box w0.heap.size 24 E_impl_RuleSet p0))] ⟨rfl, rfl, e_b1_0, rfl, rfl, trivial⟩
  replace hA := hI.avok
  clear hI
  refine HT.seq ?_
  refine HT.seq ?_
  obtain ⟨x2, q3, hr⟩ := cl_some hr
  refine HT.text (l := ⟨_, true, .rep E_impl_RuleSet A p0⟩ :: ⟨_, true, .raw (.bool x2)⟩ :: ⟨_, true, .raw (.bool (!x2))⟩ :: []) (tl := []) (by kernel_rfl) (by kernel_rfl) (by kernel_rfl) ?_ ?_
  · exact
      Obls.cons (Obl.plain rfl rfl fun R' w' hw hs hd => by have a0 : R' 1 = (.pointer (some ⟨b1_0, 0, none⟩)) := (hs 1 rfl).trans h1; exact (of_load_box ((hO.fr hw).ok 0 _ rfl).1 a0 (Fld.id _) rfl Tryd.isAgg24 Tryd.sizeOf24)) <|
      Obls.cons (Obl.plain rfl rfl fun R' w' hw hs hd => by have a0 : Rep E_impl_RuleSet A w' (R' 7) p0 := hd 0 _ _ _ rfl rfl rfl rfl rfl; exact of_call Tryd.call20 (M_spec_IsValidRules_ok (q3 rfl) (hA.fr hw.size) a0)) <|
      Obls.cons (Obl.plain rfl rfl fun R' w' hw hs hd => by have a0 : R' 8 = .bool x2 := hd 0 _ _ _ rfl rfl rfl rfl rfl; exact of_not a0) <|
      Obls.nil
  intro R w hw hs hF'
  replace h1 : R 1 = (.pointer (some ⟨b1_0, 0, none⟩)) := (hs 1 rfl).trans h1
  have h9 : R 9 = .bool (!x2) := hF' 2 _ _ rfl rfl rfl
  replace hO := hO.fr hw
  replace hA := hA.fr hw.size
  replace hF := hF.trans hw
  clear hs hF' hw
  refine seqR_nil ?_
  refine HT.cond (!x2) h9 (fun c4 => ?_) (fun c4 => ?_)
  · have hr := cnd_t c4 hr
    refine HT.seq ?_
    refine HT.text (l := ⟨_, true, .rep eStr A ([] : List UInt8)⟩ :: []) (tl := []) (by kernel_rfl) (by kernel_rfl) (by kernel_rfl) ?_ ?_
    · exact
        Obls.cons (Obl.plain rfl rfl fun R' w' hw hs hd => by exact of_assign ⟨_, rfl, ⟨_, rfl, rfl, by decide⟩⟩) <|
        Obls.nil
    intro R w hw hs hF'
    obtain ⟨u5, h2, f_u5⟩ : ∃ u, R 2 = u ∧ Rep eStr A w u ([] : List UInt8) := ⟨_, rfl, hF' 0 _ _ rfl rfl rfl⟩
    replace hO := hO.fr hw
    replace hO : IniOK [] A w := hO.sub [] trivial
    replace hA := hA.fr hw.size
    replace hF := hF.trans hw
    clear hs hF' hw
    refine seqR_nil ?_
    refine HT.ret ?_
    obtain rfl := Option.some.inj hr
    exact ⟨.inr rfl, [R 2], ⟨rfl, trivial⟩, (f_u5.eq h2).down hAA, hF⟩
  · have hr := cnd_f c4 hr
    refine HT.skip ?_
    refine HT.seq ?_
    refine HT.text (l := ⟨_, true, .rep eStr A ([] : List UInt8)⟩ :: []) (tl := []) (by kernel_rfl) (by kernel_rfl) (by kernel_rfl) ?_ ?_
    · exact
        Obls.cons (Obl.plain rfl rfl fun R' w' hw hs hd => by exact of_assign ⟨_, rfl, ⟨_, rfl, rfl, by decide⟩⟩) <|
        Obls.nil
    intro R w hw hs hF'
    replace h1 : R 1 = (.pointer (some ⟨b1_0, 0, none⟩)) := (hs 1 rfl).trans h1
    obtain ⟨u6, h3, f_u6⟩ : ∃ u, R 3 = u ∧ Rep eStr A w u ([] : List UInt8) := ⟨_, rfl, hF' 0 _ _ rfl rfl rfl⟩
    replace hO := hO.fr hw
    replace hA := hA.fr hw.size
    replace hF := hF.trans hw
    clear hs hF' hw
    refine seqR_nil ?_
    refine HT.seq ?_
    refine HT.seq ?_
    refine HT.text (l := ⟨_, true, .raw (.int .i64 (0 : Int))⟩ :: []) (tl := []) (by kernel_rfl) (by kernel_rfl) (by kernel_rfl) ?_ ?_
    · exact
        Obls.cons (Obl.plain rfl rfl fun R' w' hw hs hd => by exact of_assign rfl) <|
        Obls.nil
    intro R w hw hs hF'
    replace h1 : R 1 = (.pointer (some ⟨b1_0, 0, none⟩)) := (hs 1 rfl).trans h1
    replace h3 : R 3 = u6 := (hs 3 rfl).trans h3
    have h4 : R 4 = .int .i64 (0 : Int) := hF' 0 _ _ rfl rfl rfl
    replace f_u6 := f_u6.fr hw
    replace hO := hO.fr hw
    replace hA := hA.fr hw.size
    replace hF := hF.trans hw
    clear hs hF' hw
    refine seqR_nil ?_
    obtain ⟨rl7, q8, hr⟩ := cl_some hr
    replace q8 := q8 rfl
    refine HT.cut0 (fun R w => ∃ A : Av, ∃ (s9 : (List UInt8)) (wo_3 : Value), rl7 = s9 ∧ AvOK A w ∧ Fr w0 w ∧ (∀ b o, A0 b o → A b o) ∧ IniOK [] A w ∧ R 3 = wo_3 ∧ Rep eStr A w wo_3 s9) ?_ ?_
    · refine HT.block ?_
      refine HT.loop (fun k R w => ∃ A : Av, ∃ (y10 : List UInt8) (y11 : Int) (wl_3 : Value), M_spec_FormatRules_L0 fu p0 k y10 y11 = some rl7 ∧ AvOK A w ∧ Fr w0 w ∧ (∀ b o, A0 b o → A b o) ∧ IniOK [ob (.pointer (some ⟨b1_0, 0, none⟩)) (.box w0.heap.size 24 E_impl_RuleSet p0)] A w ∧ R 1 = (.pointer (some ⟨b1_0, 0, none⟩)) ∧ R 3 = wl_3 ∧ R 4 = .int .i64 y11 ∧ Rep eStr A w wl_3 y10) fu ⟨_, _, _, u6, q8, hA, hF, hAA, hO, h1, h3, h4, f_u6⟩ ?_
      have hr0 := hr; clear hr q8
      rintro k R w ⟨A, y10, y11, wl_3, hr, hA, hF, hAA, hO, h1, h3, h4, f_wl_3⟩
      rcases k with _ | k
      · cases (show none = some _ from hr)
      rw [M_spec_FormatRules_L0] at hr
      refine HT.seq ?_
      refine HT.seq ?_
      refine HT.text (l := ⟨_, true, .raw (.int .i64 y11)⟩ :: ⟨_, true, .raw (.pointer (some ⟨b1_0, 0, none⟩))⟩ :: ⟨_, true, .rep (eSl E_impl_Rule) A p0⟩ :: ⟨_, true, .raw (.int .i64 (p0.length : Int))⟩ :: ⟨_, true, .raw (.bool (decide (y11 < (p0.length : Int))))⟩ :: []) (tl := []) (by kernel_rfl) (by kernel_rfl) (by kernel_rfl) ?_ ?_
      · exact
          Obls.cons (Obl.plain rfl rfl fun R' w' hw hs hd => by have a0 : R' 4 = .int .i64 y11 := (hs 4 rfl).trans h4; exact of_move a0) <|
          Obls.cons (Obl.plain rfl rfl fun R' w' hw hs hd => by have a0 : R' 1 = (.pointer (some ⟨b1_0, 0, none⟩)) := (hs 1 rfl).trans h1; exact of_fieldAddr_raw a0 ff_24_0 Tryd.sizeOf22 (by decide) rfl) <|
          Obls.cons (Obl.plain rfl rfl fun R' w' hw hs hd => by have a0 : R' 11 = (.pointer (some ⟨b1_0, 0, none⟩)) := hd 0 _ _ _ rfl rfl rfl rfl rfl; exact (of_load_box ((hO.fr hw).ok 0 _ rfl).1 a0 fl_impl_RuleSet_0 rfl Tryd.isAgg22 Tryd.sizeOf22)) <|
          Obls.cons (Obl.plain rfl rfl fun R' w' hw hs hd => by have a0 : Rep (eSl E_impl_Rule) A w' (R' 12) p0 := hd 0 _ _ _ rfl rfl rfl rfl rfl; exact of_len_sl (aT := #[]) a0 Tryd.underlying22) <|
          Obls.cons (Obl.plain rfl rfl fun R' w' hw hs hd => by have a0 : R' 10 = .int .i64 y11 := hd 0 _ _ _ rfl rfl rfl rfl rfl; have a1 : R' 13 = .int .i64 (p0.length : Int) := hd 1 _ _ _ rfl rfl rfl rfl rfl; exact of_lss a0 a1) <|
          Obls.nil
      intro R w hw hs hF'
      replace h1 : R 1 = (.pointer (some ⟨b1_0, 0, none⟩)) := (hs 1 rfl).trans h1
      replace h3 : R 3 = wl_3 := (hs 3 rfl).trans h3
      replace h4 : R 4 = .int .i64 y11 := (hs 4 rfl).trans h4
      have h14 : R 14 = .bool (decide (y11 < (p0.length : Int))) := hF' 4 _ _ rfl rfl rfl
      replace f_wl_3 := f_wl_3.fr hw
      replace hO := hO.fr hw
      replace hA := hA.fr hw.size
      replace hF := hF.trans hw
      clear hs hF' hw
      refine seqR_nil ?_
      refine HT.cond (decide (y11 < (p0.length : Int))) h14 (fun c12 => ?_) (fun c12 => ?_)
      · have hr := cnd_t c12 hr
        refine HT.skip ?_
        refine HT.seq ?_
        refine HT.block ?_
        refine HT.seq ?_
        refine HT.seq ?_
        refine HT.text (l := ⟨_, true, .raw (.int .i64 y11)⟩ :: ⟨_, true, .raw (.bool (decide ((0 : Int) < y11)))⟩ :: []) (tl := []) (by kernel_rfl) (by kernel_rfl) (by kernel_rfl) ?_ ?_
        · exact
            Obls.cons (Obl.plain rfl rfl fun R' w' hw hs hd => by have a0 : R' 4 = .int .i64 y11 := (hs 4 rfl).trans h4; exact of_move a0) <|
            Obls.cons (Obl.plain rfl rfl fun R' w' hw hs hd => by have a0 : R' 17 = .int .i64 y11 := hd 0 _ _ _ rfl rfl rfl rfl rfl; exact of_gtr a0 rfl) <|
            Obls.nil
        intro R w hw hs hF'
        replace h1 : R 1 = (.pointer (some ⟨b1_0, 0, none⟩)) := (hs 1 rfl).trans h1
        replace h3 : R 3 = wl_3 := (hs 3 rfl).trans h3
        replace h4 : R 4 = .int .i64 y11 := (hs 4 rfl).trans h4
        have h18 : R 18 = .bool (decide ((0 : Int) < y11)) := hF' 1 _ _ rfl rfl rfl
        replace f_wl_3 := f_wl_3.fr hw
        replace hO := hO.fr hw
        replace hA := hA.fr hw.size
        replace hF := hF.trans hw
        clear hs hF' hw
        refine seqR_nil ?_
        refine HT.cond (decide ((0 : Int) < y11)) h18 (fun c13 => ?_) (fun c13 => ?_)
        · have hr := cnd_t c13 hr
          obtain ⟨e14, hr⟩ := ck_some hr
          refine HT.text (l := ⟨_, true, .raw wl_3⟩ :: ⟨_, true, .rep eStr A (y10 ++ ([32, 111, 114, 32] : List UInt8))⟩ :: ⟨_, true, .rep eStr A (y10 ++ ([32, 111, 114, 32] : List UInt8))⟩ :: []) (tl := []) (by kernel_rfl) (by kernel_rfl) (by kernel_rfl) ?_ ?_
          · exact
              Obls.cons (Obl.plain rfl rfl fun R' w' hw hs hd => by have a0 : R' 3 = wl_3 := (hs 3 rfl).trans h3; exact of_move a0) <|
              Obls.cons (Obl.plain rfl rfl fun R' w' hw hs hd => by have a0 : R' 19 = wl_3 := hd 0 _ _ _ rfl rfl rfl rfl rfl; have ra0 := (f_wl_3.fr hw).eq a0; exact of_cat ra0 ⟨_, rfl, ⟨_, rfl, rfl, by decide⟩⟩ e14) <|
              Obls.cons (Obl.plain rfl rfl fun R' w' hw hs hd => by have a0 : Rep eStr A w' (R' 20) (y10 ++ ([32, 111, 114, 32] : List UInt8)) := hd 0 _ _ _ rfl rfl rfl rfl rfl; exact of_assign a0) <|
              Obls.nil
          intro R w hw hs hF'
          replace h1 : R 1 = (.pointer (some ⟨b1_0, 0, none⟩)) := (hs 1 rfl).trans h1
          replace h4 : R 4 = .int .i64 y11 := (hs 4 rfl).trans h4
          obtain ⟨u15, h3, f_u15⟩ : ∃ u, R 3 = u ∧ Rep eStr A w u (y10 ++ ([32, 111, 114, 32] : List UInt8)) := ⟨_, rfl, hF' 2 _ _ rfl rfl rfl⟩
          replace hO := hO.fr hw
          replace hA := hA.fr hw.size
          replace hF := hF.trans hw
          clear hs hF' hw
          refine seqR_nil ?_
          refine HT.seq ?_
          refine HT.text (l := ⟨_, true, .raw (.int .i64 (0 : Int))⟩ :: []) (tl := []) (by kernel_rfl) (by kernel_rfl) (by kernel_rfl) ?_ ?_
          · exact
              Obls.cons (Obl.plain rfl rfl fun R' w' hw hs hd => by exact of_assign rfl) <|
              Obls.nil
          intro R w hw hs hF'
          replace h1 : R 1 = (.pointer (some ⟨b1_0, 0, none⟩)) := (hs 1 rfl).trans h1
          replace h3 : R 3 = u15 := (hs 3 rfl).trans h3
          replace h4 : R 4 = .int .i64 y11 := (hs 4 rfl).trans h4
          have h5 : R 5 = .int .i64 (0 : Int) := hF' 0 _ _ rfl rfl rfl
          replace f_u15 := f_u15.fr hw
          replace hO := hO.fr hw
          replace hA := hA.fr hw.size
          replace hF := hF.trans hw
          clear hs hF' hw
          refine seqR_nil ?_
          obtain ⟨rl16, q17, hr⟩ := cl_some hr
          replace q17 := q17 rfl
          refine HT.cut0 (fun R w => ∃ A : Av, ∃ (s18 : (List UInt8)) (wo_3 : Value), rl16 = s18 ∧ AvOK A w ∧ Fr w0 w ∧ (∀ b o, A0 b o → A b o) ∧ IniOK [ob (.pointer (some ⟨b1_0, 0, none⟩)) (.box w0.heap.size 24 E_impl_RuleSet p0)] A w ∧ R 1 = (.pointer (some ⟨b1_0, 0, none⟩)) ∧ R 3 = wo_3 ∧ R 4 = .int .i64 y11 ∧ Rep eStr A w wo_3 s18) ?_ ?_
          · refine HT.block ?_
            refine HT.loop (fun k R w => ∃ A : Av, ∃ (y19 : List UInt8) (y20 : Int) (wl_3 : Value), M_spec_FormatRules_L1 fu p0 y11 k y19 y20 = some rl16 ∧ AvOK A w ∧ Fr w0 w ∧ (∀ b o, A0 b o → A b o) ∧ IniOK [ob (.pointer (some ⟨b1_0, 0, none⟩)) (.box w0.heap.size 24 E_impl_RuleSet p0)] A w ∧ R 1 = (.pointer (some ⟨b1_0, 0, none⟩)) ∧ R 3 = wl_3 ∧ R 4 = .int .i64 y11 ∧ R 5 = .int .i64 y20 ∧ Rep eStr A w wl_3 y19) fu ⟨_, _, _, u15, q17, hA, hF, hAA, hO, h1, h3, h4, h5, f_u15⟩ ?_
            have hr0 := hr; clear hr q17
            rintro k R w ⟨A, y19, y20, wl_3, hr, hA, hF, hAA, hO, h1, h3, h4, h5, f_wl_3⟩
            rcases k with _ | k
            · cases (show none = some _ from hr)
            rw [M_spec_FormatRules_L1] at hr
            refine HT.seq ?_
            refine HT.seq ?_
            obtain ⟨e21, hr⟩ := ck_some hr
            refine HT.text (l := ⟨_, true, .raw (.int .i64 y20)⟩ :: ⟨_, true, .raw (.pointer (some ⟨b1_0, 0, none⟩))⟩ :: ⟨_, true, .rep (eSl E_impl_Rule) A p0⟩ :: ⟨_, true, .raw (.int .i64 y11)⟩ :: ⟨_, true, .qtr E_impl_Rule A (gtD p0 y11)⟩ :: ⟨_, true, .qtr (eSl E_impl_Test) A (gtD p0 y11)⟩ :: ⟨_, true, .rep (eSl E_impl_Test) A (gtD p0 y11)⟩ :: ⟨_, true, .raw (.int .i64 ((gtD p0 y11).length : Int))⟩ :: ⟨_, true, .raw (.bool (decide (y20 < ((gtD p0 y11).length : Int))))⟩ :: []) (tl := []) (by kernel_rfl) (by kernel_rfl) (by kernel_rfl) ?_ ?_
            · exact
                Obls.cons (Obl.plain rfl rfl fun R' w' hw hs hd => by have a0 : R' 5 = .int .i64 y20 := (hs 5 rfl).trans h5; exact of_move a0) <|
                Obls.cons (Obl.plain rfl rfl fun R' w' hw hs hd => by have a0 : R' 1 = (.pointer (some ⟨b1_0, 0, none⟩)) := (hs 1 rfl).trans h1; exact of_fieldAddr_raw a0 ff_24_0 Tryd.sizeOf22 (by decide) rfl) <|
                Obls.cons (Obl.plain rfl rfl fun R' w' hw hs hd => by have a0 : R' 22 = (.pointer (some ⟨b1_0, 0, none⟩)) := hd 0 _ _ _ rfl rfl rfl rfl rfl; exact (of_load_box ((hO.fr hw).ok 0 _ rfl).1 a0 fl_impl_RuleSet_0 rfl Tryd.isAgg22 Tryd.sizeOf22)) <|
                Obls.cons (Obl.plain rfl rfl fun R' w' hw hs hd => by have a0 : R' 4 = .int .i64 y11 := (hs 4 rfl).trans h4; exact of_move a0) <|
                Obls.cons (Obl.plain rfl rfl fun R' w' hw hs hd => by have a0 : Rep (eSl E_impl_Rule) A w' (R' 23) p0 := hd 0 _ _ _ rfl rfl rfl rfl rfl; have a1 : R' 24 = .int .i64 y11 := hd 1 _ _ _ rfl rfl rfl rfl rfl; exact of_indexAddr a0 a1 Tryd.underlying22 Tryd.sizeOf32 e21) <|
                Obls.cons (Obl.plain rfl rfl fun R' w' hw hs hd => by have a0 : QRep E_impl_Rule A w' (R' 25) (gtD p0 y11) := hd 0 _ _ _ rfl rfl rfl rfl rfl; exact of_fieldAddr_q a0 ff_32_0 Tryd.sizeOf30 (by decide) fl_impl_Rule_0 rfl) <|
                Obls.cons (Obl.plain rfl rfl fun R' w' hw hs hd => by have a0 : QRep (eSl E_impl_Test) A w' (R' 26) (gtD p0 y11) := hd 0 _ _ _ rfl rfl rfl rfl rfl; exact (of_load a0.ptr Tryd.isAgg30 Tryd.sizeOf30)) <|
                Obls.cons (Obl.plain rfl rfl fun R' w' hw hs hd => by have a0 : Rep (eSl E_impl_Test) A w' (R' 27) (gtD p0 y11) := hd 0 _ _ _ rfl rfl rfl rfl rfl; exact of_len_sl (aT := #[]) a0 Tryd.underlying30) <|
                Obls.cons (Obl.plain rfl rfl fun R' w' hw hs hd => by have a0 : R' 21 = .int .i64 y20 := hd 0 _ _ _ rfl rfl rfl rfl rfl; have a1 : R' 28 = .int .i64 ((gtD p0 y11).length : Int) := hd 1 _ _ _ rfl rfl rfl rfl rfl; exact of_lss a0 a1) <|
                Obls.nil
            intro R w hw hs hF'
            replace h1 : R 1 = (.pointer (some ⟨b1_0, 0, none⟩)) := (hs 1 rfl).trans h1
            replace h3 : R 3 = wl_3 := (hs 3 rfl).trans h3
            replace h4 : R 4 = .int .i64 y11 := (hs 4 rfl).trans h4
            replace h5 : R 5 = .int .i64 y20 := (hs 5 rfl).trans h5
            have h29 : R 29 = .bool (decide (y20 < ((gtD p0 y11).length : Int))) := hF' 8 _ _ rfl rfl rfl
            replace f_wl_3 := f_wl_3.fr hw
            replace hO := hO.fr hw
            replace hA := hA.fr hw.size
            replace hF := hF.trans hw
            clear hs hF' hw
            refine seqR_nil ?_
            refine HT.cond (decide (y20 < ((gtD p0 y11).length : Int))) h29 (fun c22 => ?_) (fun c22 => ?_)
            · have hr := cnd_t c22 hr
              refine HT.skip ?_
              refine HT.seq ?_
              refine HT.block ?_
              refine HT.seq ?_
              obtain ⟨e23, hr⟩ := ck_some hr
              obtain ⟨e24, hr⟩ := ck_some hr
              refine HT.textR [ob (.pointer (some ⟨b1_0, 0, none⟩)) (.box w0.heap.size 24 E_impl_RuleSet p0)] (⟨_, true, [], none, true, fun A => .raw (.pointer (some ⟨b1_0, 0, none⟩))⟩ :: ⟨_, true, [], none, true, fun A => .rep (eSl E_impl_Rule) A p0⟩ :: ⟨_, true, [], none, true, fun A => .raw (.int .i64 y11)⟩ :: ⟨_, true, [], none, true, fun A => .qtr E_impl_Rule A (gtD p0 y11)⟩ :: ⟨_, true, [], none, true, fun A => .qtr (eSl E_impl_Test) A (gtD p0 y11)⟩ :: ⟨_, true, [], none, true, fun A => .rep (eSl E_impl_Test) A (gtD p0 y11)⟩ :: ⟨_, true, [], none, true, fun A => .raw (.int .i64 y20)⟩ :: ⟨_, true, [], none, true, fun A => .qtr E_impl_Test A (gtD (gtD p0 y11) y20)⟩ :: ⟨_, true, [], none, true, fun A => .rep E_impl_Test A (gtD (gtD p0 y11) y20)⟩ :: ⟨_, true, [], some (.box w0.heap.size 36 E_impl_Test ((0 : Int), ((0 : Int), false))), true, fun A => .any⟩ :: ⟨_, true, [10], some (.box w0.heap.size 36 E_impl_Test (gtD (gtD p0 y11) y20)), false, fun A => .any⟩ :: []) (by kernel_rfl) (by kernel_rfl) (Wf.mk' (by kernel_rfl) (UAll.cons ust_raw (UAll.cons ust_rep (UAll.cons ust_raw (UAll.cons ust_qtr (UAll.cons ust_qtr (UAll.cons ust_rep (UAll.cons ust_raw (UAll.cons ust_qtr (UAll.cons ust_rep (UAll.cons ust_any (UAll.cons ust_any (UAll.nil)))))))))))) (by kernel_rfl) (by kernel_rfl)) hO hA ?_ ?_
              · exact
                  OblsR.cons (OblR.plain rfl rfl rfl rfl fun A' R' w' ho hd => by have a0 : R' 1 = (.pointer (some ⟨b1_0, 0, none⟩)) := (ho.old 1 rfl).trans h1; exact of_fieldAddr_raw a0 ff_24_0 Tryd.sizeOf22 (by decide) rfl) <|
                  OblsR.cons (OblR.plain rfl rfl rfl rfl fun A' R' w' ho hd => by have a0 : R' 32 = (.pointer (some ⟨b1_0, 0, none⟩)) := hd 0 _ _ _ rfl rfl rfl rfl rfl; exact (of_load_box (ho.rd 0 _ rfl rfl) a0 fl_impl_RuleSet_0 rfl Tryd.isAgg22 Tryd.sizeOf22)) <|
                  OblsR.cons (OblR.plain rfl rfl rfl rfl fun A' R' w' ho hd => by have a0 : R' 4 = .int .i64 y11 := (ho.old 4 rfl).trans h4; exact of_move a0) <|
                  OblsR.cons (OblR.plain rfl rfl rfl rfl fun A' R' w' ho hd => by have a0 : Rep (eSl E_impl_Rule) A' w' (R' 33) p0 := hd 0 _ _ _ rfl rfl rfl rfl rfl; have a1 : R' 34 = .int .i64 y11 := hd 1 _ _ _ rfl rfl rfl rfl rfl; exact of_indexAddr a0 a1 Tryd.underlying22 Tryd.sizeOf32 e23) <|
                  OblsR.cons (OblR.plain rfl rfl rfl rfl fun A' R' w' ho hd => by have a0 : QRep E_impl_Rule A' w' (R' 35) (gtD p0 y11) := hd 0 _ _ _ rfl rfl rfl rfl rfl; exact of_fieldAddr_q a0 ff_32_0 Tryd.sizeOf30 (by decide) fl_impl_Rule_0 rfl) <|
                  OblsR.cons (OblR.plain rfl rfl rfl rfl fun A' R' w' ho hd => by have a0 : QRep (eSl E_impl_Test) A' w' (R' 36) (gtD p0 y11) := hd 0 _ _ _ rfl rfl rfl rfl rfl; exact (of_load a0.ptr Tryd.isAgg30 Tryd.sizeOf30)) <|
                  OblsR.cons (OblR.plain rfl rfl rfl rfl fun A' R' w' ho hd => by have a0 : R' 5 = .int .i64 y20 := (ho.old 5 rfl).trans h5; exact of_move a0) <|
                  OblsR.cons (OblR.plain rfl rfl rfl rfl fun A' R' w' ho hd => by have a0 : Rep (eSl E_impl_Test) A' w' (R' 37) (gtD p0 y11) := hd 0 _ _ _ rfl rfl rfl rfl rfl; have a1 : R' 38 = .int .i64 y20 := hd 1 _ _ _ rfl rfl rfl rfl rfl; exact of_indexAddr a0 a1 Tryd.underlying30 Tryd.sizeOf36 e24) <|
                  OblsR.cons (OblR.plain rfl rfl rfl rfl fun A' R' w' ho hd => by have a0 : QRep E_impl_Test A' w' (R' 39) (gtD (gtD p0 y11) y20) := hd 0 _ _ _ rfl rfl rfl rfl rfl; exact (of_load a0.ptr Tryd.isAgg36 Tryd.sizeOf36)) <|
                  OblsR.cons (OblR.made _ rfl rfl rfl rfl fun A' R' w' ho hd => by exact made_alloc Tryd.zeroValue36 (fun A w => rep_pr rep1_int (rep_pr rep1_int rep1_bool)) (Nat.le_trans hF.size ho.ch.size)) <|
                  OblsR.cons (OblR.took 10 _ _ rfl rfl rfl rfl rfl fun A' R' w' ho hd u hok hav hin hop hds => by have a1 : Rep E_impl_Test A' w' (R' 40) (gtD (gtD p0 y11) y20) := hd 1 _ _ _ rfl rfl rfl rfl rfl; obtain ⟨b, hb, hB', hbx⟩ := hok; have hop' := hop _ _ rfl rfl rfl rfl; exact took_store a1 (hop'.symm.trans hb) hb ⟨b, hb, hB', hbx⟩ hav (FldS.id _) Tryd.sizeOf36 rfl) <|
                  OblsR.nil
              intro done ρ σ A R w hdn hI
              replace h1 : R 1 = (.pointer (some ⟨b1_0, 0, none⟩)) := (hI.reg rfl).trans h1
              replace h3 : R 3 = wl_3 := (hI.reg rfl).trans h3
              replace h4 : R 4 = .int .i64 y11 := (hI.reg rfl).trans h4
              replace h5 : R 5 = .int .i64 y20 := (hI.reg rfl).trans h5
              have z25 := hI.inivR 0 rfl
              obtain ⟨b6_25, e_b6_25⟩ := hI.boxv hdn 11 rfl rfl
              have z27 := (hI.opnR hdn 11 10 rfl rfl rfl rfl rfl).symm.trans e_b6_25
              have h6 : R 6 = (.pointer (some ⟨b6_25, 0, none⟩)) := (hI.opvR hdn 10 9 rfl rfl rfl rfl rfl).symm.trans z27
              replace f_wl_3 := f_wl_3.stp hI.stp
              replace hAA := hI.low' hAA hA0 (hO.ge (⟨rfl, trivial⟩))
              replace hF : Fr w0 w := hF.tr hI.ch (hO.ge (⟨rfl, trivial⟩))
              replace hO : IniOK [ob (.pointer (some ⟨b1_0, 0, none⟩)) (.box w0.heap.size 24 E_impl_RuleSet p0), ob (.pointer (some ⟨b6_25, 0, none⟩)) (.box w0.heap.size 36 E_impl_Test (gtD (gtD p0 y11) y20))] A w := hI.left hdn [(0, ob (.pointer (some ⟨b1_0, 0, none⟩)) (.box w0.heap.size 24 E_impl_RuleSet p0)), (11, ob (.pointer (some ⟨b6_25, 0, none⟩)) (.box w0.heap.size 36 E_impl_Test (gtD (gtD p0 y11) y20)))] ⟨rfl, rfl, z25, rfl, rfl, ⟨rfl, rfl, e_b6_25, rfl, rfl, trivial⟩⟩
              replace hA := hI.avok
              clear hI
              refine HT.seq ?_
              refine HT.seq ?_
              refine HT.text (l := ⟨_, true, .raw (.int .i64 y20)⟩ :: ⟨_, true, .raw (.bool (decide ((0 : Int) < y20)))⟩ :: []) (tl := []) (by kernel_rfl) (by kernel_rfl) (by kernel_rfl) ?_ ?_
              · exact
                  Obls.cons (Obl.plain rfl rfl fun R' w' hw hs hd => by have a0 : R' 5 = .int .i64 y20 := (hs 5 rfl).trans h5; exact of_move a0) <|
                  Obls.cons (Obl.plain rfl rfl fun R' w' hw hs hd => by have a0 : R' 41 = .int .i64 y20 := hd 0 _ _ _ rfl rfl rfl rfl rfl; exact of_gtr a0 rfl) <|
                  Obls.nil
              intro R w hw hs hF'
              replace h1 : R 1 = (.pointer (some ⟨b1_0, 0, none⟩)) := (hs 1 rfl).trans h1
              replace h3 : R 3 = wl_3 := (hs 3 rfl).trans h3
              replace h4 : R 4 = .int .i64 y11 := (hs 4 rfl).trans h4
              replace h5 : R 5 = .int .i64 y20 := (hs 5 rfl).trans h5
              replace h6 : R 6 = (.pointer (some ⟨b6_25, 0, none⟩)) := (hs 6 rfl).trans h6
              have h42 : R 42 = .bool (decide ((0 : Int) < y20)) := hF' 1 _ _ rfl rfl rfl
              replace f_wl_3 := f_wl_3.fr hw
              replace hO := hO.fr hw
              replace hA := hA.fr hw.size
              replace hF := hF.trans hw
              clear hs hF' hw
              refine seqR_nil ?_
              refine HT.cond (decide ((0 : Int) < y20)) h42 (fun c28 => ?_) (fun c28 => ?_)
              · have hr := cnd_t c28 hr
                obtain ⟨e29, hr⟩ := ck_some hr
                refine HT.text (l := ⟨_, true, .raw wl_3⟩ :: ⟨_, true, .rep eStr A (y19 ++ ([44] : List UInt8))⟩ :: ⟨_, true, .rep eStr A (y19 ++ ([44] : List UInt8))⟩ :: []) (tl := []) (by kernel_rfl) (by kernel_rfl) (by kernel_rfl) ?_ ?_
                · exact
                    Obls.cons (Obl.plain rfl rfl fun R' w' hw hs hd => by have a0 : R' 3 = wl_3 := (hs 3 rfl).trans h3; exact of_move a0) <|
                    Obls.cons (Obl.plain rfl rfl fun R' w' hw hs hd => by have a0 : R' 43 = wl_3 := hd 0 _ _ _ rfl rfl rfl rfl rfl; have ra0 := (f_wl_3.fr hw).eq a0; exact of_cat ra0 ⟨_, rfl, ⟨_, rfl, rfl, by decide⟩⟩ e29) <|
                    Obls.cons (Obl.plain rfl rfl fun R' w' hw hs hd => by have a0 : Rep eStr A w' (R' 44) (y19 ++ ([44] : List UInt8)) := hd 0 _ _ _ rfl rfl rfl rfl rfl; exact of_assign a0) <|
                    Obls.nil
                intro R w hw hs hF'
                replace h1 : R 1 = (.pointer (some ⟨b1_0, 0, none⟩)) := (hs 1 rfl).trans h1
                replace h4 : R 4 = .int .i64 y11 := (hs 4 rfl).trans h4
                replace h5 : R 5 = .int .i64 y20 := (hs 5 rfl).trans h5
                replace h6 : R 6 = (.pointer (some ⟨b6_25, 0, none⟩)) := (hs 6 rfl).trans h6
                obtain ⟨u30, h3, f_u30⟩ : ∃ u, R 3 = u ∧ Rep eStr A w u (y19 ++ ([44] : List UInt8)) := ⟨_, rfl, hF' 2 _ _ rfl rfl rfl⟩
                replace hO := hO.fr hw
                replace hA := hA.fr hw.size
                replace hF := hF.trans hw
                clear hs hF' hw
                refine seqR_nil ?_
                refine HT.seq ?_
                obtain ⟨x31, q32, hr⟩ := cl_some hr
                obtain ⟨e33, hr⟩ := ck_some hr
                refine HT.text (l := ⟨_, true, .raw u30⟩ :: ⟨_, true, .raw (.pointer (some ⟨b6_25, 0, none⟩))⟩ :: ⟨_, true, .raw (.int .i64 ((gtD (gtD p0 y11) y20).1))⟩ :: ⟨_, true, .rep eStr A x31⟩ :: ⟨_, true, .rep eStr A ((y19 ++ ([44] : List UInt8)) ++ x31)⟩ :: ⟨_, true, .rep eStr A ((y19 ++ ([44] : List UInt8)) ++ x31)⟩ :: []) (tl := []) (by kernel_rfl) (by kernel_rfl) (by kernel_rfl) ?_ ?_
                · exact
                    Obls.cons (Obl.plain rfl rfl fun R' w' hw hs hd => by have a0 : R' 3 = u30 := (hs 3 rfl).trans h3; exact of_move a0) <|
                    Obls.cons (Obl.plain rfl rfl fun R' w' hw hs hd => by have a0 : R' 6 = (.pointer (some ⟨b6_25, 0, none⟩)) := (hs 6 rfl).trans h6; exact of_fieldAddr_raw a0 ff_36_0 Tryd.sizeOf3 (by decide) rfl) <|
                    Obls.cons (Obl.plain rfl rfl fun R' w' hw hs hd => by have a0 : R' 46 = (.pointer (some ⟨b6_25, 0, none⟩)) := hd 0 _ _ _ rfl rfl rfl rfl rfl; exact OpF.int (of_load_box ((hO.fr hw).ok 1 _ rfl).1 a0 fl_impl_Test_0 rfl Tryd.isAgg3 Tryd.sizeOf3)) <|
                    Obls.cons (Obl.plain rfl rfl fun R' w' hw hs hd => by have a0 : R' 47 = .int .i64 ((gtD (gtD p0 y11) y20).1) := hd 0 _ _ _ rfl rfl rfl rfl rfl; exact of_call Tryd.call18 (M_spec_FeatureName_ok (q32 rfl) (hA.fr hw.size) a0)) <|
                    Obls.cons (Obl.plain rfl rfl fun R' w' hw hs hd => by have a0 : R' 45 = u30 := hd 0 _ _ _ rfl rfl rfl rfl rfl; have ra0 := (f_u30.fr hw).eq a0; have a1 : Rep eStr A w' (R' 48) x31 := hd 1 _ _ _ rfl rfl rfl rfl rfl; exact of_cat ra0 a1 e33) <|
                    Obls.cons (Obl.plain rfl rfl fun R' w' hw hs hd => by have a0 : Rep eStr A w' (R' 49) ((y19 ++ ([44] : List UInt8)) ++ x31) := hd 0 _ _ _ rfl rfl rfl rfl rfl; exact of_assign a0) <|
                    Obls.nil
                intro R w hw hs hF'
                replace h1 : R 1 = (.pointer (some ⟨b1_0, 0, none⟩)) := (hs 1 rfl).trans h1
                replace h4 : R 4 = .int .i64 y11 := (hs 4 rfl).trans h4
                replace h5 : R 5 = .int .i64 y20 := (hs 5 rfl).trans h5
                replace h6 : R 6 = (.pointer (some ⟨b6_25, 0, none⟩)) := (hs 6 rfl).trans h6
                obtain ⟨u34, h3, f_u34⟩ : ∃ u, R 3 = u ∧ Rep eStr A w u ((y19 ++ ([44] : List UInt8)) ++ x31) := ⟨_, rfl, hF' 5 _ _ rfl rfl rfl⟩
                replace hO := hO.fr hw
                replace hA := hA.fr hw.size
                replace hF := hF.trans hw
                clear hs hF' hw
                refine seqR_nil ?_
                refine HT.seq ?_
                refine HT.seq ?_
                refine HT.text (l := ⟨_, true, .raw (.pointer (some ⟨b6_25, 2, none⟩))⟩ :: ⟨_, true, .raw (.bool ((gtD (gtD p0 y11) y20).2.2))⟩ :: []) (tl := []) (by kernel_rfl) (by kernel_rfl) (by kernel_rfl) ?_ ?_
                · exact
                    Obls.cons (Obl.plain rfl rfl fun R' w' hw hs hd => by have a0 : R' 6 = (.pointer (some ⟨b6_25, 0, none⟩)) := (hs 6 rfl).trans h6; exact of_fieldAddr_raw a0 ff_36_2 Tryd.sizeOf4 (by decide) rfl) <|
                    Obls.cons (Obl.plain rfl rfl fun R' w' hw hs hd => by have a0 : R' 50 = (.pointer (some ⟨b6_25, 2, none⟩)) := hd 0 _ _ _ rfl rfl rfl rfl rfl; exact OpF.bool (of_load_box ((hO.fr hw).ok 1 _ rfl).1 a0 fl_impl_Test_2 rfl Tryd.isAgg4 Tryd.sizeOf4)) <|
                    Obls.nil
                intro R w hw hs hF'
                replace h1 : R 1 = (.pointer (some ⟨b1_0, 0, none⟩)) := (hs 1 rfl).trans h1
                replace h3 : R 3 = u34 := (hs 3 rfl).trans h3
                replace h4 : R 4 = .int .i64 y11 := (hs 4 rfl).trans h4
                replace h5 : R 5 = .int .i64 y20 := (hs 5 rfl).trans h5
                replace h6 : R 6 = (.pointer (some ⟨b6_25, 0, none⟩)) := (hs 6 rfl).trans h6
                have h51 : R 51 = .bool ((gtD (gtD p0 y11) y20).2.2) := hF' 1 _ _ rfl rfl rfl
                replace f_u34 := f_u34.fr hw
                replace hO := hO.fr hw
                replace hA := hA.fr hw.size
                replace hF := hF.trans hw
                clear hs hF' hw
                refine seqR_nil ?_
                refine HT.cond ((gtD (gtD p0 y11) y20).2.2) h51 (fun c35 => ?_) (fun c35 => ?_)
                · have hr := cnd_t c35 hr
                  obtain ⟨e36, hr⟩ := ck_some hr
                  refine HT.text (l := ⟨_, true, .raw u34⟩ :: ⟨_, true, .rep eStr A (((y19 ++ ([44] : List UInt8)) ++ x31) ++ ([60] : List UInt8))⟩ :: ⟨_, true, .rep eStr A (((y19 ++ ([44] : List UInt8)) ++ x31) ++ ([60] : List UInt8))⟩ :: []) (tl := []) (by kernel_rfl) (by kernel_rfl) (by kernel_rfl) ?_ ?_
                  · exact
                      Obls.cons (Obl.plain rfl rfl fun R' w' hw hs hd => by have a0 : R' 3 = u34 := (hs 3 rfl).trans h3; exact of_move a0) <|
                      Obls.cons (Obl.plain rfl rfl fun R' w' hw hs hd => by have a0 : R' 52 = u34 := hd 0 _ _ _ rfl rfl rfl rfl rfl; have ra0 := (f_u34.fr hw).eq a0; exact of_cat ra0 ⟨_, rfl, ⟨_, rfl, rfl, by decide⟩⟩ e36) <|
                      Obls.cons (Obl.plain rfl rfl fun R' w' hw hs hd => by have a0 : Rep eStr A w' (R' 53) (((y19 ++ ([44] : List UInt8)) ++ x31) ++ ([60] : List UInt8)) := hd 0 _ _ _ rfl rfl rfl rfl rfl; exact of_assign a0) <|
                      Obls.nil
                  intro R w hw hs hF'
                  replace h1 : R 1 = (.pointer (some ⟨b1_0, 0, none⟩)) := (hs 1 rfl).trans h1
                  replace h4 : R 4 = .int .i64 y11 := (hs 4 rfl).trans h4
                  replace h5 : R 5 = .int .i64 y20 := (hs 5 rfl).trans h5
                  replace h6 : R 6 = (.pointer (some ⟨b6_25, 0, none⟩)) := (hs 6 rfl).trans h6
                  obtain ⟨u37, h3, f_u37⟩ : ∃ u, R 3 = u ∧ Rep eStr A w u (((y19 ++ ([44] : List UInt8)) ++ x31) ++ ([60] : List UInt8)) := ⟨_, rfl, hF' 2 _ _ rfl rfl rfl⟩
                  replace hO := hO.fr hw
                  replace hA := hA.fr hw.size
                  replace hF := hF.trans hw
                  clear hs hF' hw
                  refine seqR_nil ?_
                  obtain ⟨x38, q39, hr⟩ := cl_some hr
                  obtain ⟨e40, hr⟩ := ck_some hr
                  refine HT.text (l := ⟨_, true, .raw u37⟩ :: ⟨_, true, .raw (.pointer (some ⟨b6_25, 1, none⟩))⟩ :: ⟨_, true, .raw (.int .i64 ((gtD (gtD p0 y11) y20).2.1))⟩ :: ⟨_, true, .rep eStr A x38⟩ :: ⟨_, true, .rep eStr A ((((y19 ++ ([44] : List UInt8)) ++ x31) ++ ([60] : List UInt8)) ++ x38)⟩ :: ⟨_, true, .rep eStr A ((((y19 ++ ([44] : List UInt8)) ++ x31) ++ ([60] : List UInt8)) ++ x38)⟩ :: []) (tl := []) (by kernel_rfl) (by kernel_rfl) (by kernel_rfl) ?_ ?_
                  · exact
                      Obls.cons (Obl.plain rfl rfl fun R' w' hw hs hd => by have a0 : R' 3 = u37 := (hs 3 rfl).trans h3; exact of_move a0) <|
                      Obls.cons (Obl.plain rfl rfl fun R' w' hw hs hd => by have a0 : R' 6 = (.pointer (some ⟨b6_25, 0, none⟩)) := (hs 6 rfl).trans h6; exact of_fieldAddr_raw a0 ff_36_1 Tryd.sizeOf3 (by decide) rfl) <|
                      Obls.cons (Obl.plain rfl rfl fun R' w' hw hs hd => by have a0 : R' 57 = (.pointer (some ⟨b6_25, 1, none⟩)) := hd 0 _ _ _ rfl rfl rfl rfl rfl; exact OpF.int (of_load_box ((hO.fr hw).ok 1 _ rfl).1 a0 fl_impl_Test_1 rfl Tryd.isAgg3 Tryd.sizeOf3)) <|
                      Obls.cons (Obl.plain rfl rfl fun R' w' hw hs hd => by have a0 : R' 58 = .int .i64 ((gtD (gtD p0 y11) y20).2.1) := hd 0 _ _ _ rfl rfl rfl rfl rfl; exact of_call Tryd.call21 (M_spec_FormatInt_ok (q39 rfl) (hA.fr hw.size) a0)) <|
                      Obls.cons (Obl.plain rfl rfl fun R' w' hw hs hd => by have a0 : R' 56 = u37 := hd 0 _ _ _ rfl rfl rfl rfl rfl; have ra0 := (f_u37.fr hw).eq a0; have a1 : Rep eStr A w' (R' 59) x38 := hd 1 _ _ _ rfl rfl rfl rfl rfl; exact of_cat ra0 a1 e40) <|
                      Obls.cons (Obl.plain rfl rfl fun R' w' hw hs hd => by have a0 : Rep eStr A w' (R' 60) ((((y19 ++ ([44] : List UInt8)) ++ x31) ++ ([60] : List UInt8)) ++ x38) := hd 0 _ _ _ rfl rfl rfl rfl rfl; exact of_assign a0) <|
                      Obls.nil
                  intro R w hw hs hF'
                  replace h1 : R 1 = (.pointer (some ⟨b1_0, 0, none⟩)) := (hs 1 rfl).trans h1
                  replace h4 : R 4 = .int .i64 y11 := (hs 4 rfl).trans h4
                  replace h5 : R 5 = .int .i64 y20 := (hs 5 rfl).trans h5
                  obtain ⟨u41, h3, f_u41⟩ : ∃ u, R 3 = u ∧ Rep eStr A w u ((((y19 ++ ([44] : List UInt8)) ++ x31) ++ ([60] : List UInt8)) ++ x38) := ⟨_, rfl, hF' 5 _ _ rfl rfl rfl⟩
                  replace hO := hO.fr hw
                  replace hO : IniOK [ob (.pointer (some ⟨b1_0, 0, none⟩)) (.box w0.heap.size 24 E_impl_RuleSet p0)] A w := hO.sub [(0, ob (.pointer (some ⟨b1_0, 0, none⟩)) (.box w0.heap.size 24 E_impl_RuleSet p0))] ⟨rfl, rfl, trivial⟩
                  replace hA := hA.fr hw.size
                  replace hF := hF.trans hw
                  clear hs hF' hw
                  refine seqR_nil ?_
                  obtain ⟨e42, hr⟩ := ck_some hr
                  refine HT.text (l := ⟨_, true, .raw (.int .i64 y20)⟩ :: ⟨_, true, .raw (.int .i64 (y20 + (1 : Int)))⟩ :: ⟨_, true, .raw (.int .i64 (y20 + (1 : Int)))⟩ :: []) (tl := []) (by kernel_rfl) (by kernel_rfl) (by kernel_rfl) ?_ ?_
                  · exact
                      Obls.cons (Obl.plain rfl rfl fun R' w' hw hs hd => by have a0 : R' 5 = .int .i64 y20 := (hs 5 rfl).trans h5; exact of_move a0) <|
                      Obls.cons (Obl.plain rfl rfl fun R' w' hw hs hd => by have a0 : R' 30 = .int .i64 y20 := hd 0 _ _ _ rfl rfl rfl rfl rfl; exact of_add a0 rfl e42) <|
                      Obls.cons (Obl.plain rfl rfl fun R' w' hw hs hd => by have a0 : R' 31 = .int .i64 (y20 + (1 : Int)) := hd 0 _ _ _ rfl rfl rfl rfl rfl; exact of_assign a0) <|
                      Obls.nil
                  intro R w hw hs hF'
                  replace h1 : R 1 = (.pointer (some ⟨b1_0, 0, none⟩)) := (hs 1 rfl).trans h1
                  replace h3 : R 3 = u41 := (hs 3 rfl).trans h3
                  replace h4 : R 4 = .int .i64 y11 := (hs 4 rfl).trans h4
                  have h5 : R 5 = .int .i64 (y20 + (1 : Int)) := hF' 2 _ _ rfl rfl rfl
                  replace f_u41 := f_u41.fr hw
                  replace hO := hO.fr hw
                  replace hA := hA.fr hw.size
                  replace hF := hF.trans hw
                  clear hs hF' hw
                  refine seqR_nil ?_
                  exact Exists.intro k (And.intro (Nat.lt_succ_self k) ⟨_, _, _, u41, hr, hA, hF, hAA, hO, h1, h3, h4, h5, f_u41⟩)
                · have hr := cnd_f c35 hr
                  obtain ⟨e43, hr⟩ := ck_some hr
                  refine HT.text (l := ⟨_, true, .raw u34⟩ :: ⟨_, true, .rep eStr A (((y19 ++ ([44] : List UInt8)) ++ x31) ++ ([62, 61] : List UInt8))⟩ :: ⟨_, true, .rep eStr A (((y19 ++ ([44] : List UInt8)) ++ x31) ++ ([62, 61] : List UInt8))⟩ :: []) (tl := []) (by kernel_rfl) (by kernel_rfl) (by kernel_rfl) ?_ ?_
                  · exact
                      Obls.cons (Obl.plain rfl rfl fun R' w' hw hs hd => by have a0 : R' 3 = u34 := (hs 3 rfl).trans h3; exact of_move a0) <|
                      Obls.cons (Obl.plain rfl rfl fun R' w' hw hs hd => by have a0 : R' 54 = u34 := hd 0 _ _ _ rfl rfl rfl rfl rfl; have ra0 := (f_u34.fr hw).eq a0; exact of_cat ra0 ⟨_, rfl, ⟨_, rfl, rfl, by decide⟩⟩ e43) <|
                      Obls.cons (Obl.plain rfl rfl fun R' w' hw hs hd => by have a0 : Rep eStr A w' (R' 55) (((y19 ++ ([44] : List UInt8)) ++ x31) ++ ([62, 61] : List UInt8)) := hd 0 _ _ _ rfl rfl rfl rfl rfl; exact of_assign a0) <|
                      Obls.nil
                  intro R w hw hs hF'
                  replace h1 : R 1 = (.pointer (some ⟨b1_0, 0, none⟩)) := (hs 1 rfl).trans h1
                  replace h4 : R 4 = .int .i64 y11 := (hs 4 rfl).trans h4
                  replace h5 : R 5 = .int .i64 y20 := (hs 5 rfl).trans h5
                  replace h6 : R 6 = (.pointer (some ⟨b6_25, 0, none⟩)) := (hs 6 rfl).trans h6
                  obtain ⟨u44, h3, f_u44⟩ : ∃ u, R 3 = u ∧ Rep eStr A w u (((y19 ++ ([44] : List UInt8)) ++ x31) ++ ([62, 61] : List UInt8)) := ⟨_, rfl, hF' 2 _ _ rfl rfl rfl⟩
                  replace hO := hO.fr hw
                  replace hA := hA.fr hw.size
                  replace hF := hF.trans hw
                  clear hs hF' hw
                  refine seqR_nil ?_
                  obtain ⟨x45, q46, hr⟩ := cl_some hr
                  obtain ⟨e47, hr⟩ := ck_some hr
                  refine HT.text (l := ⟨_, true, .raw u44⟩ :: ⟨_, true, .raw (.pointer (some ⟨b6_25, 1, none⟩))⟩ :: ⟨_, true, .raw (.int .i64 ((gtD (gtD p0 y11) y20).2.1))⟩ :: ⟨_, true, .rep eStr A x45⟩ :: ⟨_, true, .rep eStr A ((((y19 ++ ([44] : List UInt8)) ++ x31) ++ ([62, 61] : List UInt8)) ++ x45)⟩ :: ⟨_, true, .rep eStr A ((((y19 ++ ([44] : List UInt8)) ++ x31) ++ ([62, 61] : List UInt8)) ++ x45)⟩ :: []) (tl := []) (by kernel_rfl) (by kernel_rfl) (by kernel_rfl) ?_ ?_
                  · exact
                      Obls.cons (Obl.plain rfl rfl fun R' w' hw hs hd => by have a0 : R' 3 = u44 := (hs 3 rfl).trans h3; exact of_move a0) <|
                      Obls.cons (Obl.plain rfl rfl fun R' w' hw hs hd => by have a0 : R' 6 = (.pointer (some ⟨b6_25, 0, none⟩)) := (hs 6 rfl).trans h6; exact of_fieldAddr_raw a0 ff_36_1 Tryd.sizeOf3 (by decide) rfl) <|
                      Obls.cons (Obl.plain rfl rfl fun R' w' hw hs hd => by have a0 : R' 57 = (.pointer (some ⟨b6_25, 1, none⟩)) := hd 0 _ _ _ rfl rfl rfl rfl rfl; exact OpF.int (of_load_box ((hO.fr hw).ok 1 _ rfl).1 a0 fl_impl_Test_1 rfl Tryd.isAgg3 Tryd.sizeOf3)) <|
                      Obls.cons (Obl.plain rfl rfl fun R' w' hw hs hd => by have a0 : R' 58 = .int .i64 ((gtD (gtD p0 y11) y20).2.1) := hd 0 _ _ _ rfl rfl rfl rfl rfl; exact of_call Tryd.call21 (M_spec_FormatInt_ok (q46 rfl) (hA.fr hw.size) a0)) <|
                      Obls.cons (Obl.plain rfl rfl fun R' w' hw hs hd => by have a0 : R' 56 = u44 := hd 0 _ _ _ rfl rfl rfl rfl rfl; have ra0 := (f_u44.fr hw).eq a0; have a1 : Rep eStr A w' (R' 59) x45 := hd 1 _ _ _ rfl rfl rfl rfl rfl; exact of_cat ra0 a1 e47) <|
                      Obls.cons (Obl.plain rfl rfl fun R' w' hw hs hd => by have a0 : Rep eStr A w' (R' 60) ((((y19 ++ ([44] : List UInt8)) ++ x31) ++ ([62, 61] : List UInt8)) ++ x45) := hd 0 _ _ _ rfl rfl rfl rfl rfl; exact of_assign a0) <|
                      Obls.nil
                  intro R w hw hs hF'
                  replace h1 : R 1 = (.pointer (some ⟨b1_0, 0, none⟩)) := (hs 1 rfl).trans h1
                  replace h4 : R 4 = .int .i64 y11 := (hs 4 rfl).trans h4
                  replace h5 : R 5 = .int .i64 y20 := (hs 5 rfl).trans h5
                  obtain ⟨u48, h3, f_u48⟩ : ∃ u, R 3 = u ∧ Rep eStr A w u ((((y19 ++ ([44] : List UInt8)) ++ x31) ++ ([62, 61] : List UInt8)) ++ x45) := ⟨_, rfl, hF' 5 _ _ rfl rfl rfl⟩
                  replace hO := hO.fr hw
                  replace hO : IniOK [ob (.pointer (some ⟨b1_0, 0, none⟩)) (.box w0.heap.size 24 E_impl_RuleSet p0)] A w := hO.sub [(0, ob (.pointer (some ⟨b1_0, 0, none⟩)) (.box w0.heap.size 24 E_impl_RuleSet p0))] ⟨rfl, rfl, trivial⟩
                  replace hA := hA.fr hw.size
                  replace hF := hF.trans hw
                  clear hs hF' hw
                  refine seqR_nil ?_
                  obtain ⟨e49, hr⟩ := ck_some hr
                  refine HT.text (l := ⟨_, true, .raw (.int .i64 y20)⟩ :: ⟨_, true, .raw (.int .i64 (y20 + (1 : Int)))⟩ :: ⟨_, true, .raw (.int .i64 (y20 + (1 : Int)))⟩ :: []) (tl := []) (by kernel_rfl) (by kernel_rfl) (by kernel_rfl) ?_ ?_
                  · exact
                      Obls.cons (Obl.plain rfl rfl fun R' w' hw hs hd => by have a0 : R' 5 = .int .i64 y20 := (hs 5 rfl).trans h5; exact of_move a0) <|
                      Obls.cons (Obl.plain rfl rfl fun R' w' hw hs hd => by have a0 : R' 30 = .int .i64 y20 := hd 0 _ _ _ rfl rfl rfl rfl rfl; exact of_add a0 rfl e49) <|
                      Obls.cons (Obl.plain rfl rfl fun R' w' hw hs hd => by have a0 : R' 31 = .int .i64 (y20 + (1 : Int)) := hd 0 _ _ _ rfl rfl rfl rfl rfl; exact of_assign a0) <|
                      Obls.nil
                  intro R w hw hs hF'
                  replace h1 : R 1 = (.pointer (some ⟨b1_0, 0, none⟩)) := (hs 1 rfl).trans h1
                  replace h3 : R 3 = u48 := (hs 3 rfl).trans h3
                  replace h4 : R 4 = .int .i64 y11 := (hs 4 rfl).trans h4
                  have h5 : R 5 = .int .i64 (y20 + (1 : Int)) := hF' 2 _ _ rfl rfl rfl
                  replace f_u48 := f_u48.fr hw
                  replace hO := hO.fr hw
                  replace hA := hA.fr hw.size
                  replace hF := hF.trans hw
                  clear hs hF' hw
                  refine seqR_nil ?_
                  exact Exists.intro k (And.intro (Nat.lt_succ_self k) ⟨_, _, _, u48, hr, hA, hF, hAA, hO, h1, h3, h4, h5, f_u48⟩)
              · have hr := cnd_f c28 hr
                refine HT.skip ?_
                refine HT.seq ?_
                obtain ⟨x50, q51, hr⟩ := cl_some hr
                obtain ⟨e52, hr⟩ := ck_some hr
                refine HT.text (l := ⟨_, true, .raw wl_3⟩ :: ⟨_, true, .raw (.pointer (some ⟨b6_25, 0, none⟩))⟩ :: ⟨_, true, .raw (.int .i64 ((gtD (gtD p0 y11) y20).1))⟩ :: ⟨_, true, .rep eStr A x50⟩ :: ⟨_, true, .rep eStr A (y19 ++ x50)⟩ :: ⟨_, true, .rep eStr A (y19 ++ x50)⟩ :: []) (tl := []) (by kernel_rfl) (by kernel_rfl) (by kernel_rfl) ?_ ?_
                · exact
                    Obls.cons (Obl.plain rfl rfl fun R' w' hw hs hd => by have a0 : R' 3 = wl_3 := (hs 3 rfl).trans h3; exact of_move a0) <|
                    Obls.cons (Obl.plain rfl rfl fun R' w' hw hs hd => by have a0 : R' 6 = (.pointer (some ⟨b6_25, 0, none⟩)) := (hs 6 rfl).trans h6; exact of_fieldAddr_raw a0 ff_36_0 Tryd.sizeOf3 (by decide) rfl) <|
                    Obls.cons (Obl.plain rfl rfl fun R' w' hw hs hd => by have a0 : R' 46 = (.pointer (some ⟨b6_25, 0, none⟩)) := hd 0 _ _ _ rfl rfl rfl rfl rfl; exact OpF.int (of_load_box ((hO.fr hw).ok 1 _ rfl).1 a0 fl_impl_Test_0 rfl Tryd.isAgg3 Tryd.sizeOf3)) <|
                    Obls.cons (Obl.plain rfl rfl fun R' w' hw hs hd => by have a0 : R' 47 = .int .i64 ((gtD (gtD p0 y11) y20).1) := hd 0 _ _ _ rfl rfl rfl rfl rfl; exact of_call Tryd.call18 (M_spec_FeatureName_ok (q51 rfl) (hA.fr hw.size) a0)) <|
                    Obls.cons (Obl.plain rfl rfl fun R' w' hw hs hd => by have a0 : R' 45 = wl_3 := hd 0 _ _ _ rfl rfl rfl rfl rfl; have ra0 := (f_wl_3.fr hw).eq a0; have a1 : Rep eStr A w' (R' 48) x50 := hd 1 _ _ _ rfl rfl rfl rfl rfl; exact of_cat ra0 a1 e52) <|
                    Obls.cons (Obl.plain rfl rfl fun R' w' hw hs hd => by have a0 : Rep eStr A w' (R' 49) (y19 ++ x50) := hd 0 _ _ _ rfl rfl rfl rfl rfl; exact of_assign a0) <|
                    Obls.nil
                intro R w hw hs hF'
                replace h1 : R 1 = (.pointer (some ⟨b1_0, 0, none⟩)) := (hs 1 rfl).trans h1
                replace h4 : R 4 = .int .i64 y11 := (hs 4 rfl).trans h4
                replace h5 : R 5 = .int .i64 y20 := (hs 5 rfl).trans h5
                replace h6 : R 6 = (.pointer (some ⟨b6_25, 0, none⟩)) := (hs 6 rfl).trans h6
                obtain ⟨u53, h3, f_u53⟩ : ∃ u, R 3 = u ∧ Rep eStr A w u (y19 ++ x50) := ⟨_, rfl, hF' 5 _ _ rfl rfl rfl⟩
                replace hO := hO.fr hw
                replace hA := hA.fr hw.size
                replace hF := hF.trans hw
                clear hs hF' hw
                refine seqR_nil ?_
                refine HT.seq ?_
                refine HT.seq ?_
                refine HT.text (l := ⟨_, true, .raw (.pointer (some ⟨b6_25, 2, none⟩))⟩ :: ⟨_, true, .raw (.bool ((gtD (gtD p0 y11) y20).2.2))⟩ :: []) (tl := []) (by kernel_rfl) (by kernel_rfl) (by kernel_rfl) ?_ ?_
                · exact
                    Obls.cons (Obl.plain rfl rfl fun R' w' hw hs hd => by have a0 : R' 6 = (.pointer (some ⟨b6_25, 0, none⟩)) := (hs 6 rfl).trans h6; exact of_fieldAddr_raw a0 ff_36_2 Tryd.sizeOf4 (by decide) rfl) <|
                    Obls.cons (Obl.plain rfl rfl fun R' w' hw hs hd => by have a0 : R' 50 = (.pointer (some ⟨b6_25, 2, none⟩)) := hd 0 _ _ _ rfl rfl rfl rfl rfl; exact OpF.bool (of_load_box ((hO.fr hw).ok 1 _ rfl).1 a0 fl_impl_Test_2 rfl Tryd.isAgg4 Tryd.sizeOf4)) <|
                    Obls.nil
                intro R w hw hs hF'
                replace h1 : R 1 = (.pointer (some ⟨b1_0, 0, none⟩)) := (hs 1 rfl).trans h1
                replace h3 : R 3 = u53 := (hs 3 rfl).trans h3
                replace h4 : R 4 = .int .i64 y11 := (hs 4 rfl).trans h4
                replace h5 : R 5 = .int .i64 y20 := (hs 5 rfl).trans h5
                replace h6 : R 6 = (.pointer (some ⟨b6_25, 0, none⟩)) := (hs 6 rfl).trans h6
                have h51 : R 51 = .bool ((gtD (gtD p0 y11) y20).2.2) := hF' 1 _ _ rfl rfl rfl
                replace f_u53 := f_u53.fr hw
                replace hO := hO.fr hw
                replace hA := hA.fr hw.size
                replace hF := hF.trans hw
                clear hs hF' hw
                refine seqR_nil ?_
                refine HT.cond ((gtD (gtD p0 y11) y20).2.2) h51 (fun c54 => ?_) (fun c54 => ?_)
                · have hr := cnd_t c54 hr
                  obtain ⟨e55, hr⟩ := ck_some hr
                  refine HT.text (l := ⟨_, true, .raw u53⟩ :: ⟨_, true, .rep eStr A ((y19 ++ x50) ++ ([60] : List UInt8))⟩ :: ⟨_, true, .rep eStr A ((y19 ++ x50) ++ ([60] : List UInt8))⟩ :: []) (tl := []) (by kernel_rfl) (by kernel_rfl) (by kernel_rfl) ?_ ?_
                  · exact
                      Obls.cons (Obl.plain rfl rfl fun R' w' hw hs hd => by have a0 : R' 3 = u53 := (hs 3 rfl).trans h3; exact of_move a0) <|
                      Obls.cons (Obl.plain rfl rfl fun R' w' hw hs hd => by have a0 : R' 52 = u53 := hd 0 _ _ _ rfl rfl rfl rfl rfl; have ra0 := (f_u53.fr hw).eq a0; exact of_cat ra0 ⟨_, rfl, ⟨_, rfl, rfl, by decide⟩⟩ e55) <|
                      Obls.cons (Obl.plain rfl rfl fun R' w' hw hs hd => by have a0 : Rep eStr A w' (R' 53) ((y19 ++ x50) ++ ([60] : List UInt8)) := hd 0 _ _ _ rfl rfl rfl rfl rfl; exact of_assign a0) <|
                      Obls.nil
                  intro R w hw hs hF'
                  replace h1 : R 1 = (.pointer (some ⟨b1_0, 0, none⟩)) := (hs 1 rfl).trans h1
                  replace h4 : R 4 = .int .i64 y11 := (hs 4 rfl).trans h4
                  replace h5 : R 5 = .int .i64 y20 := (hs 5 rfl).trans h5
                  replace h6 : R 6 = (.pointer (some ⟨b6_25, 0, none⟩)) := (hs 6 rfl).trans h6
                  obtain ⟨u56, h3, f_u56⟩ : ∃ u, R 3 = u ∧ Rep eStr A w u ((y19 ++ x50) ++ ([60] : List UInt8)) := ⟨_, rfl, hF' 2 _ _ rfl rfl rfl⟩
                  replace hO := hO.fr hw
                  replace hA := hA.fr hw.size
                  replace hF := hF.trans hw
                  clear hs hF' hw
                  refine seqR_nil ?_
                  obtain ⟨x57, q58, hr⟩ := cl_some hr
                  obtain ⟨e59, hr⟩ := ck_some hr
                  refine HT.text (l := ⟨_, true, .raw u56⟩ :: ⟨_, true, .raw (.pointer (some ⟨b6_25, 1, none⟩))⟩ :: ⟨_, true, .raw (.int .i64 ((gtD (gtD p0 y11) y20).2.1))⟩ :: ⟨_, true, .rep eStr A x57⟩ :: ⟨_, true, .rep eStr A (((y19 ++ x50) ++ ([60] : List UInt8)) ++ x57)⟩ :: ⟨_, true, .rep eStr A (((y19 ++ x50) ++ ([60] : List UInt8)) ++ x57)⟩ :: []) (tl := []) (by kernel_rfl) (by kernel_rfl) (by kernel_rfl) ?_ ?_
                  · exact
                      Obls.cons (Obl.plain rfl rfl fun R' w' hw hs hd => by have a0 : R' 3 = u56 := (hs 3 rfl).trans h3; exact of_move a0) <|
                      Obls.cons (Obl.plain rfl rfl fun R' w' hw hs hd => by have a0 : R' 6 = (.pointer (some ⟨b6_25, 0, none⟩)) := (hs 6 rfl).trans h6; exact of_fieldAddr_raw a0 ff_36_1 Tryd.sizeOf3 (by decide) rfl) <|
                      Obls.cons (Obl.plain rfl rfl fun R' w' hw hs hd => by have a0 : R' 57 = (.pointer (some ⟨b6_25, 1, none⟩)) := hd 0 _ _ _ rfl rfl rfl rfl rfl; exact OpF.int (of_load_box ((hO.fr hw).ok 1 _ rfl).1 a0 fl_impl_Test_1 rfl Tryd.isAgg3 Tryd.sizeOf3)) <|
                      Obls.cons (Obl.plain rfl rfl fun R' w' hw hs hd => by have a0 : R' 58 = .int .i64 ((gtD (gtD p0 y11) y20).2.1) := hd 0 _ _ _ rfl rfl rfl rfl rfl; exact of_call Tryd.call21 (M_spec_FormatInt_ok (q58 rfl) (hA.fr hw.size) a0)) <|
                      Obls.cons (Obl.plain rfl rfl fun R' w' hw hs hd => by have a0 : R' 56 = u56 := hd 0 _ _ _ rfl rfl rfl rfl rfl; have ra0 := (f_u56.fr hw).eq a0; have a1 : Rep eStr A w' (R' 59) x57 := hd 1 _ _ _ rfl rfl rfl rfl rfl; exact of_cat ra0 a1 e59) <|
                      Obls.cons (Obl.plain rfl rfl fun R' w' hw hs hd => by have a0 : Rep eStr A w' (R' 60) (((y19 ++ x50) ++ ([60] : List UInt8)) ++ x57) := hd 0 _ _ _ rfl rfl rfl rfl rfl; exact of_assign a0) <|
                      Obls.nil
                  intro R w hw hs hF'
                  replace h1 : R 1 = (.pointer (some ⟨b1_0, 0, none⟩)) := (hs 1 rfl).trans h1
                  replace h4 : R 4 = .int .i64 y11 := (hs 4 rfl).trans h4
                  replace h5 : R 5 = .int .i64 y20 := (hs 5 rfl).trans h5
                  obtain ⟨u60, h3, f_u60⟩ : ∃ u, R 3 = u ∧ Rep eStr A w u (((y19 ++ x50) ++ ([60] : List UInt8)) ++ x57) := ⟨_, rfl, hF' 5 _ _ rfl rfl rfl⟩
                  replace hO := hO.fr hw
                  replace hO : IniOK [ob (.pointer (some ⟨b1_0, 0, none⟩)) (.box w0.heap.size 24 E_impl_RuleSet p0)] A w := hO.sub [(0, ob (.pointer (some ⟨b1_0, 0, none⟩)) (.box w0.heap.size 24 E_impl_RuleSet p0))] ⟨rfl, rfl, trivial⟩
                  replace hA := hA.fr hw.size
                  replace hF := hF.trans hw
                  clear hs hF' hw
                  refine seqR_nil ?_
                  obtain ⟨e61, hr⟩ := ck_some hr
                  refine HT.text (l := ⟨_, true, .raw (.int .i64 y20)⟩ :: ⟨_, true, .raw (.int .i64 (y20 + (1 : Int)))⟩ :: ⟨_, true, .raw (.int .i64 (y20 + (1 : Int)))⟩ :: []) (tl := []) (by kernel_rfl) (by kernel_rfl) (by kernel_rfl) ?_ ?_
                  · exact
                      Obls.cons (Obl.plain rfl rfl fun R' w' hw hs hd => by have a0 : R' 5 = .int .i64 y20 := (hs 5 rfl).trans h5; exact of_move a0) <|
                      Obls.cons (Obl.plain rfl rfl fun R' w' hw hs hd => by have a0 : R' 30 = .int .i64 y20 := hd 0 _ _ _ rfl rfl rfl rfl rfl; exact of_add a0 rfl e61) <|
                      Obls.cons (Obl.plain rfl rfl fun R' w' hw hs hd => by have a0 : R' 31 = .int .i64 (y20 + (1 : Int)) := hd 0 _ _ _ rfl rfl rfl rfl rfl; exact of_assign a0) <|
                      Obls.nil
                  intro R w hw hs hF'
                  replace h1 : R 1 = (.pointer (some ⟨b1_0, 0, none⟩)) := (hs 1 rfl).trans h1
                  replace h3 : R 3 = u60 := (hs 3 rfl).trans h3
                  replace h4 : R 4 = .int .i64 y11 := (hs 4 rfl).trans h4
                  have h5 : R 5 = .int .i64 (y20 + (1 : Int)) := hF' 2 _ _ rfl rfl rfl
                  replace f_u60 := f_u60.fr hw
                  replace hO := hO.fr hw
                  replace hA := hA.fr hw.size
                  replace hF := hF.trans hw
                  clear hs hF' hw
                  refine seqR_nil ?_
                  exact Exists.intro k (And.intro (Nat.lt_succ_self k) ⟨_, _, _, u60, hr, hA, hF, hAA, hO, h1, h3, h4, h5, f_u60⟩)
                · have hr := cnd_f c54 hr
                  obtain ⟨e62, hr⟩ := ck_some hr
                  refine HT.text (l := ⟨_, true, .raw u53⟩ :: ⟨_, true, .rep eStr A ((y19 ++ x50) ++ ([62, 61] : List UInt8))⟩ :: ⟨_, true, .rep eStr A ((y19 ++ x50) ++ ([62, 61] : List UInt8))⟩ :: []) (tl := []) (by kernel_rfl) (by kernel_rfl) (by kernel_rfl) ?_ ?_
                  · exact
                      Obls.cons (Obl.plain rfl rfl fun R' w' hw hs hd => by have a0 : R' 3 = u53 := (hs 3 rfl).trans h3; exact of_move a0) <|
                      Obls.cons (Obl.plain rfl rfl fun R' w' hw hs hd => by have a0 : R' 54 = u53 := hd 0 _ _ _ rfl rfl rfl rfl rfl; have ra0 := (f_u53.fr hw).eq a0; exact of_cat ra0 ⟨_, rfl, ⟨_, rfl, rfl, by decide⟩⟩ e62) <|
                      Obls.cons (Obl.plain rfl rfl fun R' w' hw hs hd => by have a0 : Rep eStr A w' (R' 55) ((y19 ++ x50) ++ ([62, 61] : List UInt8)) := hd 0 _ _ _ rfl rfl rfl rfl rfl; exact of_assign a0) <|
                      Obls.nil
                  intro R w hw hs hF'
                  replace h1 : R 1 = (.pointer (some ⟨b1_0, 0, none⟩)) := (hs 1 rfl).trans h1
                  replace h4 : R 4 = .int .i64 y11 := (hs 4 rfl).trans h4
                  replace h5 : R 5 = .int .i64 y20 := (hs 5 rfl).trans h5
                  replace h6 : R 6 = (.pointer (some ⟨b6_25, 0, none⟩)) := (hs 6 rfl).trans h6
                  obtain ⟨u63, h3, f_u63⟩ : ∃ u, R 3 = u ∧ Rep eStr A w u ((y19 ++ x50) ++ ([62, 61] : List UInt8)) := ⟨_, rfl, hF' 2 _ _ rfl rfl rfl⟩
                  replace hO := hO.fr hw
                  replace hA := hA.fr hw.size
                  replace hF := hF.trans hw
                  clear hs hF' hw
                  refine seqR_nil ?_
                  obtain ⟨x64, q65, hr⟩ := cl_some hr
                  obtain ⟨e66, hr⟩ := ck_some hr
                  refine HT.text (l := ⟨_, true, .raw u63⟩ :: ⟨_, true, .raw (.pointer (some ⟨b6_25, 1, none⟩))⟩ :: ⟨_, true, .raw (.int .i64 ((gtD (gtD p0 y11) y20).2.1))⟩ :: ⟨_, true, .rep eStr A x64⟩ :: ⟨_, true, .rep eStr A (((y19 ++ x50) ++ ([62, 61] : List UInt8)) ++ x64)⟩ :: ⟨_, true, .rep eStr A (((y19 ++ x50) ++ ([62, 61] : List UInt8)) ++ x64)⟩ :: []) (tl := []) (by kernel_rfl) (by kernel_rfl) (by kernel_rfl) ?_ ?_
                  · exact
                      Obls.cons (Obl.plain rfl rfl fun R' w' hw hs hd => by have a0 : R' 3 = u63 := (hs 3 rfl).trans h3; exact of_move a0) <|
                      Obls.cons (Obl.plain rfl rfl fun R' w' hw hs hd => by have a0 : R' 6 = (.pointer (some ⟨b6_25, 0, none⟩)) := (hs 6 rfl).trans h6; exact of_fieldAddr_raw a0 ff_36_1 Tryd.sizeOf3 (by decide) rfl) <|
                      Obls.cons (Obl.plain rfl rfl fun R' w' hw hs hd => by have a0 : R' 57 = (.pointer (some ⟨b6_25, 1, none⟩)) := hd 0 _ _ _ rfl rfl rfl rfl rfl; exact OpF.int (of_load_box ((hO.fr hw).ok 1 _ rfl).1 a0 fl_impl_Test_1 rfl Tryd.isAgg3 Tryd.sizeOf3)) <|
                      Obls.cons (Obl.plain rfl rfl fun R' w' hw hs hd => by have a0 : R' 58 = .int .i64 ((gtD (gtD p0 y11) y20).2.1) := hd 0 _ _ _ rfl rfl rfl rfl rfl; exact of_call Tryd.call21 (M_spec_FormatInt_ok (q65 rfl) (hA.fr hw.size) a0)) <|
                      Obls.cons (Obl.plain rfl rfl fun R' w' hw hs hd => by have a0 : R' 56 = u63 := hd 0 _ _ _ rfl rfl rfl rfl rfl; have ra0 := (f_u63.fr hw).eq a0; have a1 : Rep eStr A w' (R' 59) x64 := hd 1 _ _ _ rfl rfl rfl rfl rfl; exact of_cat ra0 a1 e66) <|
                      Obls.cons (Obl.plain rfl rfl fun R' w' hw hs hd => by have a0 : Rep eStr A w' (R' 60) (((y19 ++ x50) ++ ([62, 61] : List UInt8)) ++ x64) := hd 0 _ _ _ rfl rfl rfl rfl rfl; exact of_assign a0) <|
                      Obls.nil
                  intro R w hw hs hF'
                  replace h1 : R 1 = (.pointer (some ⟨b1_0, 0, none⟩)) := (hs 1 rfl).trans h1
                  replace h4 : R 4 = .int .i64 y11 := (hs 4 rfl).trans h4
                  replace h5 : R 5 = .int .i64 y20 := (hs 5 rfl).trans h5
                  obtain ⟨u67, h3, f_u67⟩ : ∃ u, R 3 = u ∧ Rep eStr A w u (((y19 ++ x50) ++ ([62, 61] : List UInt8)) ++ x64) := ⟨_, rfl, hF' 5 _ _ rfl rfl rfl⟩
                  replace hO := hO.fr hw
                  replace hO : IniOK [ob (.pointer (some ⟨b1_0, 0, none⟩)) (.box w0.heap.size 24 E_impl_RuleSet p0)] A w := hO.sub [(0, ob (.pointer (some ⟨b1_0, 0, none⟩)) (.box w0.heap.size 24 E_impl_RuleSet p0))] ⟨rfl, rfl, trivial⟩
                  replace hA := hA.fr hw.size
                  replace hF := hF.trans hw
                  clear hs hF' hw
                  refine seqR_nil ?_
                  obtain ⟨e68, hr⟩ := ck_some hr
                  refine HT.text (l := ⟨_, true, .raw (.int .i64 y20)⟩ :: ⟨_, true, .raw (.int .i64 (y20 + (1 : Int)))⟩ :: ⟨_, true, .raw (.int .i64 (y20 + (1 : Int)))⟩ :: []) (tl := []) (by kernel_rfl) (by kernel_rfl) (by kernel_rfl) ?_ ?_
                  · exact
                      Obls.cons (Obl.plain rfl rfl fun R' w' hw hs hd => by have a0 : R' 5 = .int .i64 y20 := (hs 5 rfl).trans h5; exact of_move a0) <|
                      Obls.cons (Obl.plain rfl rfl fun R' w' hw hs hd => by have a0 : R' 30 = .int .i64 y20 := hd 0 _ _ _ rfl rfl rfl rfl rfl; exact of_add a0 rfl e68) <|
                      Obls.cons (Obl.plain rfl rfl fun R' w' hw hs hd => by have a0 : R' 31 = .int .i64 (y20 + (1 : Int)) := hd 0 _ _ _ rfl rfl rfl rfl rfl; exact of_assign a0) <|
                      Obls.nil
                  intro R w hw hs hF'
                  replace h1 : R 1 = (.pointer (some ⟨b1_0, 0, none⟩)) := (hs 1 rfl).trans h1
                  replace h3 : R 3 = u67 := (hs 3 rfl).trans h3
                  replace h4 : R 4 = .int .i64 y11 := (hs 4 rfl).trans h4
                  have h5 : R 5 = .int .i64 (y20 + (1 : Int)) := hF' 2 _ _ rfl rfl rfl
                  replace f_u67 := f_u67.fr hw
                  replace hO := hO.fr hw
                  replace hA := hA.fr hw.size
                  replace hF := hF.trans hw
                  clear hs hF' hw
                  refine seqR_nil ?_
                  exact Exists.intro k (And.intro (Nat.lt_succ_self k) ⟨_, _, _, u67, hr, hA, hF, hAA, hO, h1, h3, h4, h5, f_u67⟩)
            · have hr := cnd_f c22 hr
              refine HT.exit ?_
              obtain rfl := Option.some.inj hr
              exact Exists.intro _ ⟨_, wl_3, rfl, hA, hF, hAA, hO, h1, h3, h4, f_wl_3⟩
          rintro R w ⟨A, s18, wo_3, es, hA, hF, hAA, hO, h1, h3, h4, f_wo_3⟩
          obtain rfl := es.symm
          obtain ⟨e69, hr⟩ := ck_some hr
          refine HT.text (l := ⟨_, true, .raw (.int .i64 y11)⟩ :: ⟨_, true, .raw (.int .i64 (y11 + (1 : Int)))⟩ :: ⟨_, true, .raw (.int .i64 (y11 + (1 : Int)))⟩ :: []) (tl := []) (by kernel_rfl) (by kernel_rfl) (by kernel_rfl) ?_ ?_
          · exact
              Obls.cons (Obl.plain rfl rfl fun R' w' hw hs hd => by have a0 : R' 4 = .int .i64 y11 := (hs 4 rfl).trans h4; exact of_move a0) <|
              Obls.cons (Obl.plain rfl rfl fun R' w' hw hs hd => by have a0 : R' 15 = .int .i64 y11 := hd 0 _ _ _ rfl rfl rfl rfl rfl; exact of_add a0 rfl e69) <|
              Obls.cons (Obl.plain rfl rfl fun R' w' hw hs hd => by have a0 : R' 16 = .int .i64 (y11 + (1 : Int)) := hd 0 _ _ _ rfl rfl rfl rfl rfl; exact of_assign a0) <|
              Obls.nil
          intro R w hw hs hF'
          replace h1 : R 1 = (.pointer (some ⟨b1_0, 0, none⟩)) := (hs 1 rfl).trans h1
          replace h3 : R 3 = wo_3 := (hs 3 rfl).trans h3
          have h4 : R 4 = .int .i64 (y11 + (1 : Int)) := hF' 2 _ _ rfl rfl rfl
          replace f_wo_3 := f_wo_3.fr hw
          replace hO := hO.fr hw
          replace hA := hA.fr hw.size
          replace hF := hF.trans hw
          clear hs hF' hw
          refine seqR_nil ?_
          exact Exists.intro k (And.intro (Nat.lt_succ_self k) ⟨_, _, _, wo_3, hr, hA, hF, hAA, hO, h1, h3, h4, f_wo_3⟩)
        · have hr := cnd_f c13 hr
          refine HT.skip ?_
          refine HT.seq ?_
          refine HT.text (l := ⟨_, true, .raw (.int .i64 (0 : Int))⟩ :: []) (tl := []) (by kernel_rfl) (by kernel_rfl) (by kernel_rfl) ?_ ?_
          · exact
              Obls.cons (Obl.plain rfl rfl fun R' w' hw hs hd => by exact of_assign rfl) <|
              Obls.nil
          intro R w hw hs hF'
          replace h1 : R 1 = (.pointer (some ⟨b1_0, 0, none⟩)) := (hs 1 rfl).trans h1
          replace h3 : R 3 = wl_3 := (hs 3 rfl).trans h3
          replace h4 : R 4 = .int .i64 y11 := (hs 4 rfl).trans h4
          have h5 : R 5 = .int .i64 (0 : Int) := hF' 0 _ _ rfl rfl rfl
          replace f_wl_3 := f_wl_3.fr hw
          replace hO := hO.fr hw
          replace hA := hA.fr hw.size
          replace hF := hF.trans hw
          clear hs hF' hw
          refine seqR_nil ?_
          obtain ⟨rl70, q71, hr⟩ := cl_some hr
          replace q71 := q71 rfl
          refine HT.cut0 (fun R w => ∃ A : Av, ∃ (s72 : (List UInt8)) (wo_3 : Value), rl70 = s72 ∧ AvOK A w ∧ Fr w0 w ∧ (∀ b o, A0 b o → A b o) ∧ IniOK [ob (.pointer (some ⟨b1_0, 0, none⟩)) (.box w0.heap.size 24 E_impl_RuleSet p0)] A w ∧ R 1 = (.pointer (some ⟨b1_0, 0, none⟩)) ∧ R 3 = wo_3 ∧ R 4 = .int .i64 y11 ∧ Rep eStr A w wo_3 s72) ?_ ?_
          · refine HT.block ?_
            refine HT.loop (fun k R w => ∃ A : Av, ∃ (y73 : List UInt8) (y74 : Int) (wl_3 : Value), M_spec_FormatRules_L2 fu p0 y11 k y73 y74 = some rl70 ∧ AvOK A w ∧ Fr w0 w ∧ (∀ b o, A0 b o → A b o) ∧ IniOK [ob (.pointer (some ⟨b1_0, 0, none⟩)) (.box w0.heap.size 24 E_impl_RuleSet p0)] A w ∧ R 1 = (.pointer (some ⟨b1_0, 0, none⟩)) ∧ R 3 = wl_3 ∧ R 4 = .int .i64 y11 ∧ R 5 = .int .i64 y74 ∧ Rep eStr A w wl_3 y73) fu ⟨_, _, _, wl_3, q71, hA, hF, hAA, hO, h1, h3, h4, h5, f_wl_3⟩ ?_
            have hr0 := hr; clear hr q71
            rintro k R w ⟨A, y73, y74, wl_3, hr, hA, hF, hAA, hO, h1, h3, h4, h5, f_wl_3⟩
            rcases k with _ | k
            · cases (show none = some _ from hr)
            rw [M_spec_FormatRules_L2] at hr
            refine HT.seq ?_
            refine HT.seq ?_
            obtain ⟨e75, hr⟩ := ck_some hr
            refine HT.text (l := ⟨_, true, .raw (.int .i64 y74)⟩ :: ⟨_, true, .raw (.pointer (some ⟨b1_0, 0, none⟩))⟩ :: ⟨_, true, .rep (eSl E_impl_Rule) A p0⟩ :: ⟨_, true, .raw (.int .i64 y11)⟩ :: ⟨_, true, .qtr E_impl_Rule A (gtD p0 y11)⟩ :: ⟨_, true, .qtr (eSl E_impl_Test) A (gtD p0 y11)⟩ :: ⟨_, true, .rep (eSl E_impl_Test) A (gtD p0 y11)⟩ :: ⟨_, true, .raw (.int .i64 ((gtD p0 y11).length : Int))⟩ :: ⟨_, true, .raw (.bool (decide (y74 < ((gtD p0 y11).length : Int))))⟩ :: []) (tl := []) (by kernel_rfl) (by kernel_rfl) (by kernel_rfl) ?_ ?_
            · exact
                Obls.cons (Obl.plain rfl rfl fun R' w' hw hs hd => by have a0 : R' 5 = .int .i64 y74 := (hs 5 rfl).trans h5; exact of_move a0) <|
                Obls.cons (Obl.plain rfl rfl fun R' w' hw hs hd => by have a0 : R' 1 = (.pointer (some ⟨b1_0, 0, none⟩)) := (hs 1 rfl).trans h1; exact of_fieldAddr_raw a0 ff_24_0 Tryd.sizeOf22 (by decide) rfl) <|
                Obls.cons (Obl.plain rfl rfl fun R' w' hw hs hd => by have a0 : R' 22 = (.pointer (some ⟨b1_0, 0, none⟩)) := hd 0 _ _ _ rfl rfl rfl rfl rfl; exact (of_load_box ((hO.fr hw).ok 0 _ rfl).1 a0 fl_impl_RuleSet_0 rfl Tryd.isAgg22 Tryd.sizeOf22)) <|
                Obls.cons (Obl.plain rfl rfl fun R' w' hw hs hd => by have a0 : R' 4 = .int .i64 y11 := (hs 4 rfl).trans h4; exact of_move a0) <|
                Obls.cons (Obl.plain rfl rfl fun R' w' hw hs hd => by have a0 : Rep (eSl E_impl_Rule) A w' (R' 23) p0 := hd 0 _ _ _ rfl rfl rfl rfl rfl; have a1 : R' 24 = .int .i64 y11 := hd 1 _ _ _ rfl rfl rfl rfl rfl; exact of_indexAddr a0 a1 Tryd.underlying22 Tryd.sizeOf32 e75) <|
                Obls.cons (Obl.plain rfl rfl fun R' w' hw hs hd => by have a0 : QRep E_impl_Rule A w' (R' 25) (gtD p0 y11) := hd 0 _ _ _ rfl rfl rfl rfl rfl; exact of_fieldAddr_q a0 ff_32_0 Tryd.sizeOf30 (by decide) fl_impl_Rule_0 rfl) <|
                Obls.cons (Obl.plain rfl rfl fun R' w' hw hs hd => by have a0 : QRep (eSl E_impl_Test) A w' (R' 26) (gtD p0 y11) := hd 0 _ _ _ rfl rfl rfl rfl rfl; exact (of_load a0.ptr Tryd.isAgg30 Tryd.sizeOf30)) <|
                Obls.cons (Obl.plain rfl rfl fun R' w' hw hs hd => by have a0 : Rep (eSl E_impl_Test) A w' (R' 27) (gtD p0 y11) := hd 0 _ _ _ rfl rfl rfl rfl rfl; exact of_len_sl (aT := #[]) a0 Tryd.underlying30) <|
                Obls.cons (Obl.plain rfl rfl fun R' w' hw hs hd => by have a0 : R' 21 = .int .i64 y74 := hd 0 _ _ _ rfl rfl rfl rfl rfl; have a1 : R' 28 = .int .i64 ((gtD p0 y11).length : Int) := hd 1 _ _ _ rfl rfl rfl rfl rfl; exact of_lss a0 a1) <|
                Obls.nil
            intro R w hw hs hF'
            replace h1 : R 1 = (.pointer (some ⟨b1_0, 0, none⟩)) := (hs 1 rfl).trans h1
            replace h3 : R 3 = wl_3 := (hs 3 rfl).trans h3
            replace h4 : R 4 = .int .i64 y11 := (hs 4 rfl).trans h4
            replace h5 : R 5 = .int .i64 y74 := (hs 5 rfl).trans h5
            have h29 : R 29 = .bool (decide (y74 < ((gtD p0 y11).length : Int))) := hF' 8 _ _ rfl rfl rfl
            replace f_wl_3 := f_wl_3.fr hw
            replace hO := hO.fr hw
            replace hA := hA.fr hw.size
            replace hF := hF.trans hw
            clear hs hF' hw
            refine seqR_nil ?_
            refine HT.cond (decide (y74 < ((gtD p0 y11).length : Int))) h29 (fun c76 => ?_) (fun c76 => ?_)
            · have hr := cnd_t c76 hr
              refine HT.skip ?_
              refine HT.seq ?_
              refine HT.block ?_
              refine HT.seq ?_
              obtain ⟨e77, hr⟩ := ck_some hr
              obtain ⟨e78, hr⟩ := ck_some hr
              refine HT.textR [ob (.pointer (some ⟨b1_0, 0, none⟩)) (.box w0.heap.size 24 E_impl_RuleSet p0)] (⟨_, true, [], none, true, fun A => .raw (.pointer (some ⟨b1_0, 0, none⟩))⟩ :: ⟨_, true, [], none, true, fun A => .rep (eSl E_impl_Rule) A p0⟩ :: ⟨_, true, [], none, true, fun A => .raw (.int .i64 y11)⟩ :: ⟨_, true, [], none, true, fun A => .qtr E_impl_Rule A (gtD p0 y11)⟩ :: ⟨_, true, [], none, true, fun A => .qtr (eSl E_impl_Test) A (gtD p0 y11)⟩ :: ⟨_, true, [], none, true, fun A => .rep (eSl E_impl_Test) A (gtD p0 y11)⟩ :: ⟨_, true, [], none, true, fun A => .raw (.int .i64 y74)⟩ :: ⟨_, true, [], none, true, fun A => .qtr E_impl_Test A (gtD (gtD p0 y11) y74)⟩ :: ⟨_, true, [], none, true, fun A => .rep E_impl_Test A (gtD (gtD p0 y11) y74)⟩ :: ⟨_, true, [], some (.box w0.heap.size 36 E_impl_Test ((0 : Int), ((0 : Int), false))), true, fun A => .any⟩ :: ⟨_, true, [10], some (.box w0.heap.size 36 E_impl_Test (gtD (gtD p0 y11) y74)), false, fun A => .any⟩ :: []) (by kernel_rfl) (by kernel_rfl) (Wf.mk' (by kernel_rfl) (UAll.cons ust_raw (UAll.cons ust_rep (UAll.cons ust_raw (UAll.cons ust_qtr (UAll.cons ust_qtr (UAll.cons ust_rep (UAll.cons ust_raw (UAll.cons ust_qtr (UAll.cons ust_rep (UAll.cons ust_any (UAll.cons ust_any (UAll.nil)))))))))))) (by kernel_rfl) (by kernel_rfl)) hO hA ?_ ?_
              · exact
                  OblsR.cons (OblR.plain rfl rfl rfl rfl fun A' R' w' ho hd => by have a0 : R' 1 = (.pointer (some ⟨b1_0, 0, none⟩)) := (ho.old 1 rfl).trans h1; exact of_fieldAddr_raw a0 ff_24_0 Tryd.sizeOf22 (by decide) rfl) <|
                  OblsR.cons (OblR.plain rfl rfl rfl rfl fun A' R' w' ho hd => by have a0 : R' 32 = (.pointer (some ⟨b1_0, 0, none⟩)) := hd 0 _ _ _ rfl rfl rfl rfl rfl; exact (of_load_box (ho.rd 0 _ rfl rfl) a0 fl_impl_RuleSet_0 rfl Tryd.isAgg22 Tryd.sizeOf22)) <|
                  OblsR.cons (OblR.plain rfl rfl rfl rfl fun A' R' w' ho hd => by have a0 : R' 4 = .int .i64 y11 := (ho.old 4 rfl).trans h4; exact of_move a0) <|
                  OblsR.cons (OblR.plain rfl rfl rfl rfl fun A' R' w' ho hd => by have a0 : Rep (eSl E_impl_Rule) A' w' (R' 33) p0 := hd 0 _ _ _ rfl rfl rfl rfl rfl; have a1 : R' 34 = .int .i64 y11 := hd 1 _ _ _ rfl rfl rfl rfl rfl; exact of_indexAddr a0 a1 Tryd.underlying22 Tryd.sizeOf32 e77) <|
                  OblsR.cons (OblR.plain rfl rfl rfl rfl fun A' R' w' ho hd => by have a0 : QRep E_impl_Rule A' w' (R' 35) (gtD p0 y11) := hd 0 _ _ _ rfl rfl rfl rfl rfl; exact of_fieldAddr_q a0 ff_32_0 Tryd.sizeOf30 (by decide) fl_impl_Rule_0 rfl) <|
                  OblsR.cons (OblR.plain rfl rfl rfl rfl fun A' R' w' ho hd => by have a0 : QRep (eSl E_impl_Test) A' w' (R' 36) (gtD p0 y11) := hd 0 _ _ _ rfl rfl rfl rfl rfl; exact (of_load a0.ptr Tryd.isAgg30 Tryd.sizeOf30)) <|
                  OblsR.cons (OblR.plain rfl rfl rfl rfl fun A' R' w' ho hd => by have a0 : R' 5 = .int .i64 y74 := (ho.old 5 rfl).trans h5; exact of_move a0) <|
                  OblsR.cons (OblR.plain rfl rfl rfl rfl fun A' R' w' ho hd => by have a0 : Rep (eSl E_impl_Test) A' w' (R' 37) (gtD p0 y11) := hd 0 _ _ _ rfl rfl rfl rfl rfl; have a1 : R' 38 = .int .i64 y74 := hd 1 _ _ _ rfl rfl rfl rfl rfl; exact of_indexAddr a0 a1 Tryd.underlying30 Tryd.sizeOf36 e78) <|
                  OblsR.cons (OblR.plain rfl rfl rfl rfl fun A' R' w' ho hd => by have a0 : QRep E_impl_Test A' w' (R' 39) (gtD (gtD p0 y11) y74) := hd 0 _ _ _ rfl rfl rfl rfl rfl; exact (of_load a0.ptr Tryd.isAgg36 Tryd.sizeOf36)) <|
                  OblsR.cons (OblR.made _ rfl rfl rfl rfl fun A' R' w' ho hd => by exact made_alloc Tryd.zeroValue36 (fun A w => rep_pr rep1_int (rep_pr rep1_int rep1_bool)) (Nat.le_trans hF.size ho.ch.size)) <|
                  OblsR.cons (OblR.took 10 _ _ rfl rfl rfl rfl rfl fun A' R' w' ho hd u hok hav hin hop hds => by have a1 : Rep E_impl_Test A' w' (R' 40) (gtD (gtD p0 y11) y74) := hd 1 _ _ _ rfl rfl rfl rfl rfl; obtain ⟨b, hb, hB', hbx⟩ := hok; have hop' := hop _ _ rfl rfl rfl rfl; exact took_store a1 (hop'.symm.trans hb) hb ⟨b, hb, hB', hbx⟩ hav (FldS.id _) Tryd.sizeOf36 rfl) <|
                  OblsR.nil
              intro done ρ σ A R w hdn hI
              replace h1 : R 1 = (.pointer (some ⟨b1_0, 0, none⟩)) := (hI.reg rfl).trans h1
              replace h3 : R 3 = wl_3 := (hI.reg rfl).trans h3
              replace h4 : R 4 = .int .i64 y11 := (hI.reg rfl).trans h4
              replace h5 : R 5 = .int .i64 y74 := (hI.reg rfl).trans h5
              have z79 := hI.inivR 0 rfl
              obtain ⟨b6_79, e_b6_79⟩ := hI.boxv hdn 11 rfl rfl
              have z81 := (hI.opnR hdn 11 10 rfl rfl rfl rfl rfl).symm.trans e_b6_79
              have h6 : R 6 = (.pointer (some ⟨b6_79, 0, none⟩)) := (hI.opvR hdn 10 9 rfl rfl rfl rfl rfl).symm.trans z81
              replace f_wl_3 := f_wl_3.stp hI.stp
              replace hAA := hI.low' hAA hA0 (hO.ge (⟨rfl, trivial⟩))
              replace hF : Fr w0 w := hF.tr hI.ch (hO.ge (⟨rfl, trivial⟩))
              replace hO : IniOK [ob (.pointer (some ⟨b1_0, 0, none⟩)) (.box w0.heap.size 24 E_impl_RuleSet p0), ob (.pointer (some ⟨b6_79, 0, none⟩)) (.box w0.heap.size 36 E_impl_Test (gtD (gtD p0 y11) y74))] A w := hI.left hdn [(0, ob (.pointer (some ⟨b1_0, 0, none⟩)) (.box w0.heap.size 24 E_impl_RuleSet p0)), (11, ob (.pointer (some ⟨b6_79, 0, none⟩)) (.box w0.heap.size 36 E_impl_Test (gtD (gtD p0 y11) y74)))] ⟨rfl, rfl, z79, rfl, rfl, ⟨rfl, rfl, e_b6_79, rfl, rfl, trivial⟩⟩
              replace hA := hI.avok
              clear hI
              refine HT.seq ?_
              refine HT.seq ?_
              refine HT.text (l := ⟨_, true, .raw (.int .i64 y74)⟩ :: ⟨_, true, .raw (.bool (decide ((0 : Int) < y74)))⟩ :: []) (tl := []) (by kernel_rfl) (by kernel_rfl) (by kernel_rfl) ?_ ?_
              · exact
                  Obls.cons (Obl.plain rfl rfl fun R' w' hw hs hd => by have a0 : R' 5 = .int .i64 y74 := (hs 5 rfl).trans h5; exact of_move a0) <|
                  Obls.cons (Obl.plain rfl rfl fun R' w' hw hs hd => by have a0 : R' 41 = .int .i64 y74 := hd 0 _ _ _ rfl rfl rfl rfl rfl; exact of_gtr a0 rfl) <|
                  Obls.nil
              intro R w hw hs hF'
              replace h1 : R 1 = (.pointer (some ⟨b1_0, 0, none⟩)) := (hs 1 rfl).trans h1
              replace h3 : R 3 = wl_3 := (hs 3 rfl).trans h3
              replace h4 : R 4 = .int .i64 y11 := (hs 4 rfl).trans h4
              replace h5 : R 5 = .int .i64 y74 := (hs 5 rfl).trans h5
              replace h6 : R 6 = (.pointer (some ⟨b6_79, 0, none⟩)) := (hs 6 rfl).trans h6
              have h42 : R 42 = .bool (decide ((0 : Int) < y74)) := hF' 1 _ _ rfl rfl rfl
              replace f_wl_3 := f_wl_3.fr hw
              replace hO := hO.fr hw
              replace hA := hA.fr hw.size
              replace hF := hF.trans hw
              clear hs hF' hw
              refine seqR_nil ?_
              refine HT.cond (decide ((0 : Int) < y74)) h42 (fun c82 => ?_) (fun c82 => ?_)
              · have hr := cnd_t c82 hr
                obtain ⟨e83, hr⟩ := ck_some hr
                refine HT.text (l := ⟨_, true, .raw wl_3⟩ :: ⟨_, true, .rep eStr A (y73 ++ ([44] : List UInt8))⟩ :: ⟨_, true, .rep eStr A (y73 ++ ([44] : List UInt8))⟩ :: []) (tl := []) (by kernel_rfl) (by kernel_rfl) (by kernel_rfl) ?_ ?_
                · exact
                    Obls.cons (Obl.plain rfl rfl fun R' w' hw hs hd => by have a0 : R' 3 = wl_3 := (hs 3 rfl).trans h3; exact of_move a0) <|
                    Obls.cons (Obl.plain rfl rfl fun R' w' hw hs hd => by have a0 : R' 43 = wl_3 := hd 0 _ _ _ rfl rfl rfl rfl rfl; have ra0 := (f_wl_3.fr hw).eq a0; exact of_cat ra0 ⟨_, rfl, ⟨_, rfl, rfl, by decide⟩⟩ e83) <|
                    Obls.cons (Obl.plain rfl rfl fun R' w' hw hs hd => by have a0 : Rep eStr A w' (R' 44) (y73 ++ ([44] : List UInt8)) := hd 0 _ _ _ rfl rfl rfl rfl rfl; exact of_assign a0) <|
                    Obls.nil
                intro R w hw hs hF'
                replace h1 : R 1 = (.pointer (some ⟨b1_0, 0, none⟩)) := (hs 1 rfl).trans h1
                replace h4 : R 4 = .int .i64 y11 := (hs 4 rfl).trans h4
                replace h5 : R 5 = .int .i64 y74 := (hs 5 rfl).trans h5
                replace h6 : R 6 = (.pointer (some ⟨b6_79, 0, none⟩)) := (hs 6 rfl).trans h6
                obtain ⟨u84, h3, f_u84⟩ : ∃ u, R 3 = u ∧ Rep eStr A w u (y73 ++ ([44] : List UInt8)) := ⟨_, rfl, hF' 2 _ _ rfl rfl rfl⟩
                replace hO := hO.fr hw
                replace hA := hA.fr hw.size
                replace hF := hF.trans hw
                clear hs hF' hw
                refine seqR_nil ?_
                refine HT.seq ?_
                obtain ⟨x85, q86, hr⟩ := cl_some hr
                obtain ⟨e87, hr⟩ := ck_some hr
                refine HT.text (l := ⟨_, true, .raw u84⟩ :: ⟨_, true, .raw (.pointer (some ⟨b6_79, 0, none⟩))⟩ :: ⟨_, true, .raw (.int .i64 ((gtD (gtD p0 y11) y74).1))⟩ :: ⟨_, true, .rep eStr A x85⟩ :: ⟨_, true, .rep eStr A ((y73 ++ ([44] : List UInt8)) ++ x85)⟩ :: ⟨_, true, .rep eStr A ((y73 ++ ([44] : List UInt8)) ++ x85)⟩ :: []) (tl := []) (by kernel_rfl) (by kernel_rfl) (by kernel_rfl) ?_ ?_
                · exact
                    Obls.cons (Obl.plain rfl rfl fun R' w' hw hs hd => by have a0 : R' 3 = u84 := (hs 3 rfl).trans h3; exact of_move a0) <|
                    Obls.cons (Obl.plain rfl rfl fun R' w' hw hs hd => by have a0 : R' 6 = (.pointer (some ⟨b6_79, 0, none⟩)) := (hs 6 rfl).trans h6; exact of_fieldAddr_raw a0 ff_36_0 Tryd.sizeOf3 (by decide) rfl) <|
                    Obls.cons (Obl.plain rfl rfl fun R' w' hw hs hd => by have a0 : R' 46 = (.pointer (some ⟨b6_79, 0, none⟩)) := hd 0 _ _ _ rfl rfl rfl rfl rfl; exact OpF.int (of_load_box ((hO.fr hw).ok 1 _ rfl).1 a0 fl_impl_Test_0 rfl Tryd.isAgg3 Tryd.sizeOf3)) <|
                    Obls.cons (Obl.plain rfl rfl fun R' w' hw hs hd => by have a0 : R' 47 = .int .i64 ((gtD (gtD p0 y11) y74).1) := hd 0 _ _ _ rfl rfl rfl rfl rfl; exact of_call Tryd.call18 (M_spec_FeatureName_ok (q86 rfl) (hA.fr hw.size) a0)) <|
                    Obls.cons (Obl.plain rfl rfl fun R' w' hw hs hd => by have a0 : R' 45 = u84 := hd 0 _ _ _ rfl rfl rfl rfl rfl; have ra0 := (f_u84.fr hw).eq a0; have a1 : Rep eStr A w' (R' 48) x85 := hd 1 _ _ _ rfl rfl rfl rfl rfl; exact of_cat ra0 a1 e87) <|
                    Obls.cons (Obl.plain rfl rfl fun R' w' hw hs hd => by have a0 : Rep eStr A w' (R' 49) ((y73 ++ ([44] : List UInt8)) ++ x85) := hd 0 _ _ _ rfl rfl rfl rfl rfl; exact of_assign a0) <|
                    Obls.nil
                intro R w hw hs hF'
                replace h1 : R 1 = (.pointer (some ⟨b1_0, 0, none⟩)) := (hs 1 rfl).trans h1
                replace h4 : R 4 = .int .i64 y11 := (hs 4 rfl).trans h4
                replace h5 : R 5 = .int .i64 y74 := (hs 5 rfl).trans h5
                replace h6 : R 6 = (.pointer (some ⟨b6_79, 0, none⟩)) := (hs 6 rfl).trans h6
                obtain ⟨u88, h3, f_u88⟩ : ∃ u, R 3 = u ∧ Rep eStr A w u ((y73 ++ ([44] : List UInt8)) ++ x85) := ⟨_, rfl, hF' 5 _ _ rfl rfl rfl⟩
                replace hO := hO.fr hw
                replace hA := hA.fr hw.size
                replace hF := hF.trans hw
                clear hs hF' hw
                refine seqR_nil ?_
                refine HT.seq ?_
                refine HT.seq ?_
                refine HT.text (l := ⟨_, true, .raw (.pointer (some ⟨b6_79, 2, none⟩))⟩ :: ⟨_, true, .raw (.bool ((gtD (gtD p0 y11) y74).2.2))⟩ :: []) (tl := []) (by kernel_rfl) (by kernel_rfl) (by kernel_rfl) ?_ ?_
                · exact
                    Obls.cons (Obl.plain rfl rfl fun R' w' hw hs hd => by have a0 : R' 6 = (.pointer (some ⟨b6_79, 0, none⟩)) := (hs 6 rfl).trans h6; exact of_fieldAddr_raw a0 ff_36_2 Tryd.sizeOf4 (by decide) rfl) <|
                    Obls.cons (Obl.plain rfl rfl fun R' w' hw hs hd => by have a0 : R' 50 = (.pointer (some ⟨b6_79, 2, none⟩)) := hd 0 _ _ _ rfl rfl rfl rfl rfl; exact OpF.bool (of_load_box ((hO.fr hw).ok 1 _ rfl).1 a0 fl_impl_Test_2 rfl Tryd.isAgg4 Tryd.sizeOf4)) <|
                    Obls.nil
                intro R w hw hs hF'
                replace h1 : R 1 = (.pointer (some ⟨b1_0, 0, none⟩)) := (hs 1 rfl).trans h1
                replace h3 : R 3 = u88 := (hs 3 rfl).trans h3
                replace h4 : R 4 = .int .i64 y11 := (hs 4 rfl).trans h4
                replace h5 : R 5 = .int .i64 y74 := (hs 5 rfl).trans h5
                replace h6 : R 6 = (.pointer (some ⟨b6_79, 0, none⟩)) := (hs 6 rfl).trans h6
                have h51 : R 51 = .bool ((gtD (gtD p0 y11) y74).2.2) := hF' 1 _ _ rfl rfl rfl
                replace f_u88 := f_u88.fr hw
                replace hO := hO.fr hw
                replace hA := hA.fr hw.size
                replace hF := hF.trans hw
                clear hs hF' hw
                refine seqR_nil ?_
                refine HT.cond ((gtD (gtD p0 y11) y74).2.2) h51 (fun c89 => ?_) (fun c89 => ?_)
                · have hr := cnd_t c89 hr
                  obtain ⟨e90, hr⟩ := ck_some hr
                  refine HT.text (l := ⟨_, true, .raw u88⟩ :: ⟨_, true, .rep eStr A (((y73 ++ ([44] : List UInt8)) ++ x85) ++ ([60] : List UInt8))⟩ :: ⟨_, true, .rep eStr A (((y73 ++ ([44] : List UInt8)) ++ x85) ++ ([60] : List UInt8))⟩ :: []) (tl := []) (by kernel_rfl) (by kernel_rfl) (by kernel_rfl) ?_ ?_
                  · exact
                      Obls.cons (Obl.plain rfl rfl fun R' w' hw hs hd => by have a0 : R' 3 = u88 := (hs 3 rfl).trans h3; exact of_move a0) <|
                      Obls.cons (Obl.plain rfl rfl fun R' w' hw hs hd => by have a0 : R' 52 = u88 := hd 0 _ _ _ rfl rfl rfl rfl rfl; have ra0 := (f_u88.fr hw).eq a0; exact of_cat ra0 ⟨_, rfl, ⟨_, rfl, rfl, by decide⟩⟩ e90) <|
                      Obls.cons (Obl.plain rfl rfl fun R' w' hw hs hd => by have a0 : Rep eStr A w' (R' 53) (((y73 ++ ([44] : List UInt8)) ++ x85) ++ ([60] : List UInt8)) := hd 0 _ _ _ rfl rfl rfl rfl rfl; exact of_assign a0) <|
                      Obls.nil
                  intro R w hw hs hF'
                  replace h1 : R 1 = (.pointer (some ⟨b1_0, 0, none⟩)) := (hs 1 rfl).trans h1
                  replace h4 : R 4 = .int .i64 y11 := (hs 4 rfl).trans h4
                  replace h5 : R 5 = .int .i64 y74 := (hs 5 rfl).trans h5
                  replace h6 : R 6 = (.pointer (some ⟨b6_79, 0, none⟩)) := (hs 6 rfl).trans h6
                  obtain ⟨u91, h3, f_u91⟩ : ∃ u, R 3 = u ∧ Rep eStr A w u (((y73 ++ ([44] : List UInt8)) ++ x85) ++ ([60] : List UInt8)) := ⟨_, rfl, hF' 2 _ _ rfl rfl rfl⟩
                  replace hO := hO.fr hw
                  replace hA := hA.fr hw.size
                  replace hF := hF.trans hw
                  clear hs hF' hw
                  refine seqR_nil ?_
                  obtain ⟨x92, q93, hr⟩ := cl_some hr
                  obtain ⟨e94, hr⟩ := ck_some hr
                  refine HT.text (l := ⟨_, true, .raw u91⟩ :: ⟨_, true, .raw (.pointer (some ⟨b6_79, 1, none⟩))⟩ :: ⟨_, true, .raw (.int .i64 ((gtD (gtD p0 y11) y74).2.1))⟩ :: ⟨_, true, .rep eStr A x92⟩ :: ⟨_, true, .rep eStr A ((((y73 ++ ([44] : List UInt8)) ++ x85) ++ ([60] : List UInt8)) ++ x92)⟩ :: ⟨_, true, .rep eStr A ((((y73 ++ ([44] : List UInt8)) ++ x85) ++ ([60] : List UInt8)) ++ x92)⟩ :: []) (tl := []) (by kernel_rfl) (by kernel_rfl) (by kernel_rfl) ?_ ?_
                  · exact
                      Obls.cons (Obl.plain rfl rfl fun R' w' hw hs hd => by have a0 : R' 3 = u91 := (hs 3 rfl).trans h3; exact of_move a0) <|
                      Obls.cons (Obl.plain rfl rfl fun R' w' hw hs hd => by have a0 : R' 6 = (.pointer (some ⟨b6_79, 0, none⟩)) := (hs 6 rfl).trans h6; exact of_fieldAddr_raw a0 ff_36_1 Tryd.sizeOf3 (by decide) rfl) <|
                      Obls.cons (Obl.plain rfl rfl fun R' w' hw hs hd => by have a0 : R' 57 = (.pointer (some ⟨b6_79, 1, none⟩)) := hd 0 _ _ _ rfl rfl rfl rfl rfl; exact OpF.int (of_load_box ((hO.fr hw).ok 1 _ rfl).1 a0 fl_impl_Test_1 rfl Tryd.isAgg3 Tryd.sizeOf3)) <|
                      Obls.cons (Obl.plain rfl rfl fun R' w' hw hs hd => by have a0 : R' 58 = .int .i64 ((gtD (gtD p0 y11) y74).2.1) := hd 0 _ _ _ rfl rfl rfl rfl rfl; exact of_call Tryd.call21 (M_spec_FormatInt_ok (q93 rfl) (hA.fr hw.size) a0)) <|
                      Obls.cons (Obl.plain rfl rfl fun R' w' hw hs hd => by have a0 : R' 56 = u91 := hd 0 _ _ _ rfl rfl rfl rfl rfl; have ra0 := (f_u91.fr hw).eq a0; have a1 : Rep eStr A w' (R' 59) x92 := hd 1 _ _ _ rfl rfl rfl rfl rfl; exact of_cat ra0 a1 e94) <|
                      Obls.cons (Obl.plain rfl rfl fun R' w' hw hs hd => by have a0 : Rep eStr A w' (R' 60) ((((y73 ++ ([44] : List UInt8)) ++ x85) ++ ([60] : List UInt8)) ++ x92) := hd 0 _ _ _ rfl rfl rfl rfl rfl; exact of_assign a0) <|
                      Obls.nil
                  intro R w hw hs hF'
                  replace h1 : R 1 = (.pointer (some ⟨b1_0, 0, none⟩)) := (hs 1 rfl).trans h1
                  replace h4 : R 4 = .int .i64 y11 := (hs 4 rfl).trans h4
                  replace h5 : R 5 = .int .i64 y74 := (hs 5 rfl).trans h5
                  obtain ⟨u95, h3, f_u95⟩ : ∃ u, R 3 = u ∧ Rep eStr A w u ((((y73 ++ ([44] : List UInt8)) ++ x85) ++ ([60] : List UInt8)) ++ x92) := ⟨_, rfl, hF' 5 _ _ rfl rfl rfl⟩
                  replace hO := hO.fr hw
                  replace hO : IniOK [ob (.pointer (some ⟨b1_0, 0, none⟩)) (.box w0.heap.size 24 E_impl_RuleSet p0)] A w := hO.sub [(0, ob (.pointer (some ⟨b1_0, 0, none⟩)) (.box w0.heap.size 24 E_impl_RuleSet p0))] ⟨rfl, rfl, trivial⟩
                  replace hA := hA.fr hw.size
                  replace hF := hF.trans hw
                  clear hs hF' hw
                  refine seqR_nil ?_
                  obtain ⟨e96, hr⟩ := ck_some hr
                  refine HT.text (l := ⟨_, true, .raw (.int .i64 y74)⟩ :: ⟨_, true, .raw (.int .i64 (y74 + (1 : Int)))⟩ :: ⟨_, true, .raw (.int .i64 (y74 + (1 : Int)))⟩ :: []) (tl := []) (by kernel_rfl) (by kernel_rfl) (by kernel_rfl) ?_ ?_
                  · exact
                      Obls.cons (Obl.plain rfl rfl fun R' w' hw hs hd => by have a0 : R' 5 = .int .i64 y74 := (hs 5 rfl).trans h5; exact of_move a0) <|
                      Obls.cons (Obl.plain rfl rfl fun R' w' hw hs hd => by have a0 : R' 30 = .int .i64 y74 := hd 0 _ _ _ rfl rfl rfl rfl rfl; exact of_add a0 rfl e96) <|
                      Obls.cons (Obl.plain rfl rfl fun R' w' hw hs hd => by have a0 : R' 31 = .int .i64 (y74 + (1 : Int)) := hd 0 _ _ _ rfl rfl rfl rfl rfl; exact of_assign a0) <|
                      Obls.nil
                  intro R w hw hs hF'
                  replace h1 : R 1 = (.pointer (some ⟨b1_0, 0, none⟩)) := (hs 1 rfl).trans h1
                  replace h3 : R 3 = u95 := (hs 3 rfl).trans h3
                  replace h4 : R 4 = .int .i64 y11 := (hs 4 rfl).trans h4
                  have h5 : R 5 = .int .i64 (y74 + (1 : Int)) := hF' 2 _ _ rfl rfl rfl
                  replace f_u95 := f_u95.fr hw
                  replace hO := hO.fr hw
                  replace hA := hA.fr hw.size
                  replace hF := hF.trans hw
                  clear hs hF' hw
                  refine seqR_nil ?_
                  exact Exists.intro k (And.intro (Nat.lt_succ_self k) ⟨_, _, _, u95, hr, hA, hF, hAA, hO, h1, h3, h4, h5, f_u95⟩)
                · have hr := cnd_f c89 hr
                  obtain ⟨e97, hr⟩ := ck_some hr
                  refine HT.text (l := ⟨_, true, .raw u88⟩ :: ⟨_, true, .rep eStr A (((y73 ++ ([44] : List UInt8)) ++ x85) ++ ([62, 61] : List UInt8))⟩ :: ⟨_, true, .rep eStr A (((y73 ++ ([44] : List UInt8)) ++ x85) ++ ([62, 61] : List UInt8))⟩ :: []) (tl := []) (by kernel_rfl) (by kernel_rfl) (by kernel_rfl) ?_ ?_
                  · exact
                      Obls.cons (Obl.plain rfl rfl fun R' w' hw hs hd => by have a0 : R' 3 = u88 := (hs 3 rfl).trans h3; exact of_move a0) <|
                      Obls.cons (Obl.plain rfl rfl fun R' w' hw hs hd => by have a0 : R' 54 = u88 := hd 0 _ _ _ rfl rfl rfl rfl rfl; have ra0 := (f_u88.fr hw).eq a0; exact of_cat ra0 ⟨_, rfl, ⟨_, rfl, rfl, by decide⟩⟩ e97) <|
                      Obls.cons (Obl.plain rfl rfl fun R' w' hw hs hd => by have a0 : Rep eStr A w' (R' 55) (((y73 ++ ([44] : List UInt8)) ++ x85) ++ ([62, 61] : List UInt8)) := hd 0 _ _ _ rfl rfl rfl rfl rfl; exact of_assign a0) <|
                      Obls.nil
                  intro R w hw hs hF'
                  replace h1 : R 1 = (.pointer (some ⟨b1_0, 0, none⟩)) := (hs 1 rfl).trans h1
                  replace h4 : R 4 = .int .i64 y11 := (hs 4 rfl).trans h4
                  replace h5 : R 5 = .int .i64 y74 := (hs 5 rfl).trans h5
                  replace h6 : R 6 = (.pointer (some ⟨b6_79, 0, none⟩)) := (hs 6 rfl).trans h6
                  obtain ⟨u98, h3, f_u98⟩ : ∃ u, R 3 = u ∧ Rep eStr A w u (((y73 ++ ([44] : List UInt8)) ++ x85) ++ ([62, 61] : List UInt8)) := ⟨_, rfl, hF' 2 _ _ rfl rfl rfl⟩
                  replace hO := hO.fr hw
                  replace hA := hA.fr hw.size
                  replace hF := hF.trans hw
                  clear hs hF' hw
                  refine seqR_nil ?_
                  obtain ⟨x99, q100, hr⟩ := cl_some hr
                  obtain ⟨e101, hr⟩ := ck_some hr
                  refine HT.text (l := ⟨_, true, .raw u98⟩ :: ⟨_, true, .raw (.pointer (some ⟨b6_79, 1, none⟩))⟩ :: ⟨_, true, .raw (.int .i64 ((gtD (gtD p0 y11) y74).2.1))⟩ :: ⟨_, true, .rep eStr A x99⟩ :: ⟨_, true, .rep eStr A ((((y73 ++ ([44] : List UInt8)) ++ x85) ++ ([62, 61] : List UInt8)) ++ x99)⟩ :: ⟨_, true, .rep eStr A ((((y73 ++ ([44] : List UInt8)) ++ x85) ++ ([62, 61] : List UInt8)) ++ x99)⟩ :: []) (tl := []) (by kernel_rfl) (by kernel_rfl) (by kernel_rfl) ?_ ?_
                  · exact
                      Obls.cons (Obl.plain rfl rfl fun R' w' hw hs hd => by have a0 : R' 3 = u98 := (hs 3 rfl).trans h3; exact of_move a0) <|
                      Obls.cons (Obl.plain rfl rfl fun R' w' hw hs hd => by have a0 : R' 6 = (.pointer (some ⟨b6_79, 0, none⟩)) := (hs 6 rfl).trans h6; exact of_fieldAddr_raw a0 ff_36_1 Tryd.sizeOf3 (by decide) rfl) <|
                      Obls.cons (Obl.plain rfl rfl fun R' w' hw hs hd => by have a0 : R' 57 = (.pointer (some ⟨b6_79, 1, none⟩)) := hd 0 _ _ _ rfl rfl rfl rfl rfl; exact OpF.int (of_load_box ((hO.fr hw).ok 1 _ rfl).1 a0 fl_impl_Test_1 rfl Tryd.isAgg3 Tryd.sizeOf3)) <|
                      Obls.cons (Obl.plain rfl rfl fun R' w' hw hs hd => by have a0 : R' 58 = .int .i64 ((gtD (gtD p0 y11) y74).2.1) := hd 0 _ _ _ rfl rfl rfl rfl rfl; exact of_call Tryd.call21 (M_spec_FormatInt_ok (q100 rfl) (hA.fr hw.size) a0)) <|
                      Obls.cons (Obl.plain rfl rfl fun R' w' hw hs hd => by have a0 : R' 56 = u98 := hd 0 _ _ _ rfl rfl rfl rfl rfl; have ra0 := (f_u98.fr hw).eq a0; have a1 : Rep eStr A w' (R' 59) x99 := hd 1 _ _ _ rfl rfl rfl rfl rfl; exact of_cat ra0 a1 e101) <|
                      Obls.cons (Obl.plain rfl rfl fun R' w' hw hs hd => by have a0 : Rep eStr A w' (R' 60) ((((y73 ++ ([44] : List UInt8)) ++ x85) ++ ([62, 61] : List UInt8)) ++ x99) := hd 0 _ _ _ rfl rfl rfl rfl rfl; exact of_assign a0) <|
                      Obls.nil
                  intro R w hw hs hF'
                  replace h1 : R 1 = (.pointer (some ⟨b1_0, 0, none⟩)) := (hs 1 rfl).trans h1
                  replace h4 : R 4 = .int .i64 y11 := (hs 4 rfl).trans h4
                  replace h5 : R 5 = .int .i64 y74 := (hs 5 rfl).trans h5
                  obtain ⟨u102, h3, f_u102⟩ : ∃ u, R 3 = u ∧ Rep eStr A w u ((((y73 ++ ([44] : List UInt8)) ++ x85) ++ ([62, 61] : List UInt8)) ++ x99) := ⟨_, rfl, hF' 5 _ _ rfl rfl rfl⟩
                  replace hO := hO.fr hw
                  replace hO : IniOK [ob (.pointer (some ⟨b1_0, 0, none⟩)) (.box w0.heap.size 24 E_impl_RuleSet p0)] A w := hO.sub [(0, ob (.pointer (some ⟨b1_0, 0, none⟩)) (.box w0.heap.size 24 E_impl_RuleSet p0))] ⟨rfl, rfl, trivial⟩
                  replace hA := hA.fr hw.size
                  replace hF := hF.trans hw
                  clear hs hF' hw
                  refine seqR_nil ?_
                  obtain ⟨e103, hr⟩ := ck_some hr
                  refine HT.text (l := ⟨_, true, .raw (.int .i64 y74)⟩ :: ⟨_, true, .raw (.int .i64 (y74 + (1 : Int)))⟩ :: ⟨_, true, .raw (.int .i64 (y74 + (1 : Int)))⟩ :: []) (tl := []) (by kernel_rfl) (by kernel_rfl) (by kernel_rfl) ?_ ?_
                  · exact
                      Obls.cons (Obl.plain rfl rfl fun R' w' hw hs hd => by have a0 : R' 5 = .int .i64 y74 := (hs 5 rfl).trans h5; exact of_move a0) <|
                      Obls.cons (Obl.plain rfl rfl fun R' w' hw hs hd => by have a0 : R' 30 = .int .i64 y74 := hd 0 _ _ _ rfl rfl rfl rfl rfl; exact of_add a0 rfl e103) <|
                      Obls.cons (Obl.plain rfl rfl fun R' w' hw hs hd => by have a0 : R' 31 = .int .i64 (y74 + (1 : Int)) := hd 0 _ _ _ rfl rfl rfl rfl rfl; exact of_assign a0) <|
                      Obls.nil
                  intro R w hw hs hF'
                  replace h1 : R 1 = (.pointer (some ⟨b1_0, 0, none⟩)) := (hs 1 rfl).trans h1
                  replace h3 : R 3 = u102 := (hs 3 rfl).trans h3
                  replace h4 : R 4 = .int .i64 y11 := (hs 4 rfl).trans h4
                  have h5 : R 5 = .int .i64 (y74 + (1 : Int)) := hF' 2 _ _ rfl rfl rfl
                  replace f_u102 := f_u102.fr hw
                  replace hO := hO.fr hw
                  replace hA := hA.fr hw.size
                  replace hF := hF.trans hw
                  clear hs hF' hw
                  refine seqR_nil ?_
                  exact Exists.intro k (And.intro (Nat.lt_succ_self k) ⟨_, _, _, u102, hr, hA, hF, hAA, hO, h1, h3, h4, h5, f_u102⟩)
              · have hr := cnd_f c82 hr
                refine HT.skip ?_
                refine HT.seq ?_
                obtain ⟨x104, q105, hr⟩ := cl_some hr
                obtain ⟨e106, hr⟩ := ck_some hr
                refine HT.text (l := ⟨_, true, .raw wl_3⟩ :: ⟨_, true, .raw (.pointer (some ⟨b6_79, 0, none⟩))⟩ :: ⟨_, true, .raw (.int .i64 ((gtD (gtD p0 y11) y74).1))⟩ :: ⟨_, true, .rep eStr A x104⟩ :: ⟨_, true, .rep eStr A (y73 ++ x104)⟩ :: ⟨_, true, .rep eStr A (y73 ++ x104)⟩ :: []) (tl := []) (by kernel_rfl) (by kernel_rfl) (by kernel_rfl) ?_ ?_
                · exact
                    Obls.cons (Obl.plain rfl rfl fun R' w' hw hs hd => by have a0 : R' 3 = wl_3 := (hs 3 rfl).trans h3; exact of_move a0) <|
                    Obls.cons (Obl.plain rfl rfl fun R' w' hw hs hd => by have a0 : R' 6 = (.pointer (some ⟨b6_79, 0, none⟩)) := (hs 6 rfl).trans h6; exact of_fieldAddr_raw a0 ff_36_0 Tryd.sizeOf3 (by decide) rfl) <|
                    Obls.cons (Obl.plain rfl rfl fun R' w' hw hs hd => by have a0 : R' 46 = (.pointer (some ⟨b6_79, 0, none⟩)) := hd 0 _ _ _ rfl rfl rfl rfl rfl; exact OpF.int (of_load_box ((hO.fr hw).ok 1 _ rfl).1 a0 fl_impl_Test_0 rfl Tryd.isAgg3 Tryd.sizeOf3)) <|
                    Obls.cons (Obl.plain rfl rfl fun R' w' hw hs hd => by have a0 : R' 47 = .int .i64 ((gtD (gtD p0 y11) y74).1) := hd 0 _ _ _ rfl rfl rfl rfl rfl; exact of_call Tryd.call18 (M_spec_FeatureName_ok (q105 rfl) (hA.fr hw.size) a0)) <|
                    Obls.cons (Obl.plain rfl rfl fun R' w' hw hs hd => by have a0 : R' 45 = wl_3 := hd 0 _ _ _ rfl rfl rfl rfl rfl; have ra0 := (f_wl_3.fr hw).eq a0; have a1 : Rep eStr A w' (R' 48) x104 := hd 1 _ _ _ rfl rfl rfl rfl rfl; exact of_cat ra0 a1 e106) <|
                    Obls.cons (Obl.plain rfl rfl fun R' w' hw hs hd => by have a0 : Rep eStr A w' (R' 49) (y73 ++ x104) := hd 0 _ _ _ rfl rfl rfl rfl rfl; exact of_assign a0) <|
                    Obls.nil
                intro R w hw hs hF'
                replace h1 : R 1 = (.pointer (some ⟨b1_0, 0, none⟩)) := (hs 1 rfl).trans h1
                replace h4 : R 4 = .int .i64 y11 := (hs 4 rfl).trans h4
                replace h5 : R 5 = .int .i64 y74 := (hs 5 rfl).trans h5
                replace h6 : R 6 = (.pointer (some ⟨b6_79, 0, none⟩)) := (hs 6 rfl).trans h6
                obtain ⟨u107, h3, f_u107⟩ : ∃ u, R 3 = u ∧ Rep eStr A w u (y73 ++ x104) := ⟨_, rfl, hF' 5 _ _ rfl rfl rfl⟩
                replace hO := hO.fr hw
                replace hA := hA.fr hw.size
                replace hF := hF.trans hw
                clear hs hF' hw
                refine seqR_nil ?_
                refine HT.seq ?_
                refine HT.seq ?_
                refine HT.text (l := ⟨_, true, .raw (.pointer (some ⟨b6_79, 2, none⟩))⟩ :: ⟨_, true, .raw (.bool ((gtD (gtD p0 y11) y74).2.2))⟩ :: []) (tl := []) (by kernel_rfl) (by kernel_rfl) (by kernel_rfl) ?_ ?_
                · exact
                    Obls.cons (Obl.plain rfl rfl fun R' w' hw hs hd => by have a0 : R' 6 = (.pointer (some ⟨b6_79, 0, none⟩)) := (hs 6 rfl).trans h6; exact of_fieldAddr_raw a0 ff_36_2 Tryd.sizeOf4 (by decide) rfl) <|
                    Obls.cons (Obl.plain rfl rfl fun R' w' hw hs hd => by have a0 : R' 50 = (.pointer (some ⟨b6_79, 2, none⟩)) := hd 0 _ _ _ rfl rfl rfl rfl rfl; exact OpF.bool (of_load_box ((hO.fr hw).ok 1 _ rfl).1 a0 fl_impl_Test_2 rfl Tryd.isAgg4 Tryd.sizeOf4)) <|
                    Obls.nil
                intro R w hw hs hF'
                replace h1 : R 1 = (.pointer (some ⟨b1_0, 0, none⟩)) := (hs 1 rfl).trans h1
                replace h3 : R 3 = u107 := (hs 3 rfl).trans h3
                replace h4 : R 4 = .int .i64 y11 := (hs 4 rfl).trans h4
                replace h5 : R 5 = .int .i64 y74 := (hs 5 rfl).trans h5
                replace h6 : R 6 = (.pointer (some ⟨b6_79, 0, none⟩)) := (hs 6 rfl).trans h6
                have h51 : R 51 = .bool ((gtD (gtD p0 y11) y74).2.2) := hF' 1 _ _ rfl rfl rfl
                replace f_u107 := f_u107.fr hw
                replace hO := hO.fr hw
                replace hA := hA.fr hw.size
                replace hF := hF.trans hw
                clear hs hF' hw
                refine seqR_nil ?_
                refine HT.cond ((gtD (gtD p0 y11) y74).2.2) h51 (fun c108 => ?_) (fun c108 => ?_)
                · have hr := cnd_t c108 hr
                  obtain ⟨e109, hr⟩ := ck_some hr
                  refine HT.text (l := ⟨_, true, .raw u107⟩ :: ⟨_, true, .rep eStr A ((y73 ++ x104) ++ ([60] : List UInt8))⟩ :: ⟨_, true, .rep eStr A ((y73 ++ x104) ++ ([60] : List UInt8))⟩ :: []) (tl := []) (by kernel_rfl) (by kernel_rfl) (by kernel_rfl) ?_ ?_
                  · exact
                      Obls.cons (Obl.plain rfl rfl fun R' w' hw hs hd => by have a0 : R' 3 = u107 := (hs 3 rfl).trans h3; exact of_move a0) <|
                      Obls.cons (Obl.plain rfl rfl fun R' w' hw hs hd => by have a0 : R' 52 = u107 := hd 0 _ _ _ rfl rfl rfl rfl rfl; have ra0 := (f_u107.fr hw).eq a0; exact of_cat ra0 ⟨_, rfl, ⟨_, rfl, rfl, by decide⟩⟩ e109) <|
                      Obls.cons (Obl.plain rfl rfl fun R' w' hw hs hd => by have a0 : Rep eStr A w' (R' 53) ((y73 ++ x104) ++ ([60] : List UInt8)) := hd 0 _ _ _ rfl rfl rfl rfl rfl; exact of_assign a0) <|
                      Obls.nil
                  intro R w hw hs hF'
                  replace h1 : R 1 = (.pointer (some ⟨b1_0, 0, none⟩)) := (hs 1 rfl).trans h1
                  replace h4 : R 4 = .int .i64 y11 := (hs 4 rfl).trans h4
                  replace h5 : R 5 = .int .i64 y74 := (hs 5 rfl).trans h5
                  replace h6 : R 6 = (.pointer (some ⟨b6_79, 0, none⟩)) := (hs 6 rfl).trans h6
                  obtain ⟨u110, h3, f_u110⟩ : ∃ u, R 3 = u ∧ Rep eStr A w u ((y73 ++ x104) ++ ([60] : List UInt8)) := ⟨_, rfl, hF' 2 _ _ rfl rfl rfl⟩
                  replace hO := hO.fr hw
                  replace hA := hA.fr hw.size
                  replace hF := hF.trans hw
                  clear hs hF' hw
                  refine seqR_nil ?_
                  obtain ⟨x111, q112, hr⟩ := cl_some hr
                  obtain ⟨e113, hr⟩ := ck_some hr
                  refine HT.text (l := ⟨_, true, .raw u110⟩ :: ⟨_, true, .raw (.pointer (some ⟨b6_79, 1, none⟩))⟩ :: ⟨_, true, .raw (.int .i64 ((gtD (gtD p0 y11) y74).2.1))⟩ :: ⟨_, true, .rep eStr A x111⟩ :: ⟨_, true, .rep eStr A (((y73 ++ x104) ++ ([60] : List UInt8)) ++ x111)⟩ :: ⟨_, true, .rep eStr A (((y73 ++ x104) ++ ([60] : List UInt8)) ++ x111)⟩ :: []) (tl := []) (by kernel_rfl) (by kernel_rfl) (by kernel_rfl) ?_ ?_
                  · exact
                      Obls.cons (Obl.plain rfl rfl fun R' w' hw hs hd => by have a0 : R' 3 = u110 := (hs 3 rfl).trans h3; exact of_move a0) <|
                      Obls.cons (Obl.plain rfl rfl fun R' w' hw hs hd => by have a0 : R' 6 = (.pointer (some ⟨b6_79, 0, none⟩)) := (hs 6 rfl).trans h6; exact of_fieldAddr_raw a0 ff_36_1 Tryd.sizeOf3 (by decide) rfl) <|
                      Obls.cons (Obl.plain rfl rfl fun R' w' hw hs hd => by have a0 : R' 57 = (.pointer (some ⟨b6_79, 1, none⟩)) := hd 0 _ _ _ rfl rfl rfl rfl rfl; exact OpF.int (of_load_box ((hO.fr hw).ok 1 _ rfl).1 a0 fl_impl_Test_1 rfl Tryd.isAgg3 Tryd.sizeOf3)) <|
                      Obls.cons (Obl.plain rfl rfl fun R' w' hw hs hd => by have a0 : R' 58 = .int .i64 ((gtD (gtD p0 y11) y74).2.1) := hd 0 _ _ _ rfl rfl rfl rfl rfl; exact of_call Tryd.call21 (M_spec_FormatInt_ok (q112 rfl) (hA.fr hw.size) a0)) <|
                      Obls.cons (Obl.plain rfl rfl fun R' w' hw hs hd => by have a0 : R' 56 = u110 := hd 0 _ _ _ rfl rfl rfl rfl rfl; have ra0 := (f_u110.fr hw).eq a0; have a1 : Rep eStr A w' (R' 59) x111 := hd 1 _ _ _ rfl rfl rfl rfl rfl; exact of_cat ra0 a1 e113) <|
                      Obls.cons (Obl.plain rfl rfl fun R' w' hw hs hd => by have a0 : Rep eStr A w' (R' 60) (((y73 ++ x104) ++ ([60] : List UInt8)) ++ x111) := hd 0 _ _ _ rfl rfl rfl rfl rfl; exact of_assign a0) <|
                      Obls.nil
                  intro R w hw hs hF'
                  replace h1 : R 1 = (.pointer (some ⟨b1_0, 0, none⟩)) := (hs 1 rfl).trans h1
                  replace h4 : R 4 = .int .i64 y11 := (hs 4 rfl).trans h4
                  replace h5 : R 5 = .int .i64 y74 := (hs 5 rfl).trans h5
                  obtain ⟨u114, h3, f_u114⟩ : ∃ u, R 3 = u ∧ Rep eStr A w u (((y73 ++ x104) ++ ([60] : List UInt8)) ++ x111) := ⟨_, rfl, hF' 5 _ _ rfl rfl rfl⟩
                  replace hO := hO.fr hw
                  replace hO : IniOK [ob (.pointer (some ⟨b1_0, 0, none⟩)) (.box w0.heap.size 24 E_impl_RuleSet p0)] A w := hO.sub [(0, ob (.pointer (some ⟨b1_0, 0, none⟩)) (.box w0.heap.size 24 E_impl_RuleSet p0))] ⟨rfl, rfl, trivial⟩
                  replace hA := hA.fr hw.size
                  replace hF := hF.trans hw
                  clear hs hF' hw
                  refine seqR_nil ?_
                  obtain ⟨e115, hr⟩ := ck_some hr
                  refine HT.text (l := ⟨_, true, .raw (.int .i64 y74)⟩ :: ⟨_, true, .raw (.int .i64 (y74 + (1 : Int)))⟩ :: ⟨_, true, .raw (.int .i64 (y74 + (1 : Int)))⟩ :: []) (tl := []) (by kernel_rfl) (by kernel_rfl) (by kernel_rfl) ?_ ?_
                  · exact
                      Obls.cons (Obl.plain rfl rfl fun R' w' hw hs hd => by have a0 : R' 5 = .int .i64 y74 := (hs 5 rfl).trans h5; exact of_move a0) <|
                      Obls.cons (Obl.plain rfl rfl fun R' w' hw hs hd => by have a0 : R' 30 = .int .i64 y74 := hd 0 _ _ _ rfl rfl rfl rfl rfl; exact of_add a0 rfl e115) <|
                      Obls.cons (Obl.plain rfl rfl fun R' w' hw hs hd => by have a0 : R' 31 = .int .i64 (y74 + (1 : Int)) := hd 0 _ _ _ rfl rfl rfl rfl rfl; exact of_assign a0) <|
                      Obls.nil
                  intro R w hw hs hF'
                  replace h1 : R 1 = (.pointer (some ⟨b1_0, 0, none⟩)) := (hs 1 rfl).trans h1
                  replace h3 : R 3 = u114 := (hs 3 rfl).trans h3
                  replace h4 : R 4 = .int .i64 y11 := (hs 4 rfl).trans h4
                  have h5 : R 5 = .int .i64 (y74 + (1 : Int)) := hF' 2 _ _ rfl rfl rfl
                  replace f_u114 := f_u114.fr hw
                  replace hO := hO.fr hw
                  replace hA := hA.fr hw.size
                  replace hF := hF.trans hw
                  clear hs hF' hw
                  refine seqR_nil ?_
                  exact Exists.intro k (And.intro (Nat.lt_succ_self k) ⟨_, _, _, u114, hr, hA, hF, hAA, hO, h1, h3, h4, h5, f_u114⟩)
                · have hr := cnd_f c108 hr
                  obtain ⟨e116, hr⟩ := ck_some hr
                  refine HT.text (l := ⟨_, true, .raw u107⟩ :: ⟨_, true, .rep eStr A ((y73 ++ x104) ++ ([62, 61] : List UInt8))⟩ :: ⟨_, true, .rep eStr A ((y73 ++ x104) ++ ([62, 61] : List UInt8))⟩ :: []) (tl := []) (by kernel_rfl) (by kernel_rfl) (by kernel_rfl) ?_ ?_
                  · exact
                      Obls.cons (Obl.plain rfl rfl fun R' w' hw hs hd => by have a0 : R' 3 = u107 := (hs 3 rfl).trans h3; exact of_move a0) <|
                      Obls.cons (Obl.plain rfl rfl fun R' w' hw hs hd => by have a0 : R' 54 = u107 := hd 0 _ _ _ rfl rfl rfl rfl rfl; have ra0 := (f_u107.fr hw).eq a0; exact of_cat ra0 ⟨_, rfl, ⟨_, rfl, rfl, by decide⟩⟩ e116) <|
                      Obls.cons (Obl.plain rfl rfl fun R' w' hw hs hd => by have a0 : Rep eStr A w' (R' 55) ((y73 ++ x104) ++ ([62, 61] : List UInt8)) := hd 0 _ _ _ rfl rfl rfl rfl rfl; exact of_assign a0) <|
                      Obls.nil
                  intro R w hw hs hF'
                  replace h1 : R 1 = (.pointer (some ⟨b1_0, 0, none⟩)) := (hs 1 rfl).trans h1
                  replace h4 : R 4 = .int .i64 y11 := (hs 4 rfl).trans h4
                  replace h5 : R 5 = .int .i64 y74 := (hs 5 rfl).trans h5
                  replace h6 : R 6 = (.pointer (some ⟨b6_79, 0, none⟩)) := (hs 6 rfl).trans h6
                  obtain ⟨u117, h3, f_u117⟩ : ∃ u, R 3 = u ∧ Rep eStr A w u ((y73 ++ x104) ++ ([62, 61] : List UInt8)) := ⟨_, rfl, hF' 2 _ _ rfl rfl rfl⟩
                  replace hO := hO.fr hw
                  replace hA := hA.fr hw.size
                  replace hF := hF.trans hw
                  clear hs hF' hw
                  refine seqR_nil ?_
                  obtain ⟨x118, q119, hr⟩ := cl_some hr
                  obtain ⟨e120, hr⟩ := ck_some hr
                  refine HT.text (l := ⟨_, true, .raw u117⟩ :: ⟨_, true, .raw (.pointer (some ⟨b6_79, 1, none⟩))⟩ :: ⟨_, true, .raw (.int .i64 ((gtD (gtD p0 y11) y74).2.1))⟩ :: ⟨_, true, .rep eStr A x118⟩ :: ⟨_, true, .rep eStr A (((y73 ++ x104) ++ ([62, 61] : List UInt8)) ++ x118)⟩ :: ⟨_, true, .rep eStr A (((y73 ++ x104) ++ ([62, 61] : List UInt8)) ++ x118)⟩ :: []) (tl := []) (by kernel_rfl) (by kernel_rfl) (by kernel_rfl) ?_ ?_
                  · exact
                      Obls.cons (Obl.plain rfl rfl fun R' w' hw hs hd => by have a0 : R' 3 = u117 := (hs 3 rfl).trans h3; exact of_move a0) <|
                      Obls.cons (Obl.plain rfl rfl fun R' w' hw hs hd => by have a0 : R' 6 = (.pointer (some ⟨b6_79, 0, none⟩)) := (hs 6 rfl).trans h6; exact of_fieldAddr_raw a0 ff_36_1 Tryd.sizeOf3 (by decide) rfl) <|
                      Obls.cons (Obl.plain rfl rfl fun R' w' hw hs hd => by have a0 : R' 57 = (.pointer (some ⟨b6_79, 1, none⟩)) := hd 0 _ _ _ rfl rfl rfl rfl rfl; exact OpF.int (of_load_box ((hO.fr hw).ok 1 _ rfl).1 a0 fl_impl_Test_1 rfl Tryd.isAgg3 Tryd.sizeOf3)) <|
                      Obls.cons (Obl.plain rfl rfl fun R' w' hw hs hd => by have a0 : R' 58 = .int .i64 ((gtD (gtD p0 y11) y74).2.1) := hd 0 _ _ _ rfl rfl rfl rfl rfl; exact of_call Tryd.call21 (M_spec_FormatInt_ok (q119 rfl) (hA.fr hw.size) a0)) <|
                      Obls.cons (Obl.plain rfl rfl fun R' w' hw hs hd => by have a0 : R' 56 = u117 := hd 0 _ _ _ rfl rfl rfl rfl rfl; have ra0 := (f_u117.fr hw).eq a0; have a1 : Rep eStr A w' (R' 59) x118 := hd 1 _ _ _ rfl rfl rfl rfl rfl; exact of_cat ra0 a1 e120) <|
                      Obls.cons (Obl.plain rfl rfl fun R' w' hw hs hd => by have a0 : Rep eStr A w' (R' 60) (((y73 ++ x104) ++ ([62, 61] : List UInt8)) ++ x118) := hd 0 _ _ _ rfl rfl rfl rfl rfl; exact of_assign a0) <|
                      Obls.nil
                  intro R w hw hs hF'
                  replace h1 : R 1 = (.pointer (some ⟨b1_0, 0, none⟩)) := (hs 1 rfl).trans h1
                  replace h4 : R 4 = .int .i64 y11 := (hs 4 rfl).trans h4
                  replace h5 : R 5 = .int .i64 y74 := (hs 5 rfl).trans h5
                  obtain ⟨u121, h3, f_u121⟩ : ∃ u, R 3 = u ∧ Rep eStr A w u (((y73 ++ x104) ++ ([62, 61] : List UInt8)) ++ x118) := ⟨_, rfl, hF' 5 _ _ rfl rfl rfl⟩
                  replace hO := hO.fr hw
                  replace hO : IniOK [ob (.pointer (some ⟨b1_0, 0, none⟩)) (.box w0.heap.size 24 E_impl_RuleSet p0)] A w := hO.sub [(0, ob (.pointer (some ⟨b1_0, 0, none⟩)) (.box w0.heap.size 24 E_impl_RuleSet p0))] ⟨rfl, rfl, trivial⟩
                  replace hA := hA.fr hw.size
                  replace hF := hF.trans hw
                  clear hs hF' hw
                  refine seqR_nil ?_
                  obtain ⟨e122, hr⟩ := ck_some hr
                  refine HT.text (l := ⟨_, true, .raw (.int .i64 y74)⟩ :: ⟨_, true, .raw (.int .i64 (y74 + (1 : Int)))⟩ :: ⟨_, true, .raw (.int .i64 (y74 + (1 : Int)))⟩ :: []) (tl := []) (by kernel_rfl) (by kernel_rfl) (by kernel_rfl) ?_ ?_
                  · exact
                      Obls.cons (Obl.plain rfl rfl fun R' w' hw hs hd => by have a0 : R' 5 = .int .i64 y74 := (hs 5 rfl).trans h5; exact of_move a0) <|
                      Obls.cons (Obl.plain rfl rfl fun R' w' hw hs hd => by have a0 : R' 30 = .int .i64 y74 := hd 0 _ _ _ rfl rfl rfl rfl rfl; exact of_add a0 rfl e122) <|
                      Obls.cons (Obl.plain rfl rfl fun R' w' hw hs hd => by have a0 : R' 31 = .int .i64 (y74 + (1 : Int)) := hd 0 _ _ _ rfl rfl rfl rfl rfl; exact of_assign a0) <|
                      Obls.nil
                  intro R w hw hs hF'
                  replace h1 : R 1 = (.pointer (some ⟨b1_0, 0, none⟩)) := (hs 1 rfl).trans h1
                  replace h3 : R 3 = u121 := (hs 3 rfl).trans h3
                  replace h4 : R 4 = .int .i64 y11 := (hs 4 rfl).trans h4
                  have h5 : R 5 = .int .i64 (y74 + (1 : Int)) := hF' 2 _ _ rfl rfl rfl
                  replace f_u121 := f_u121.fr hw
                  replace hO := hO.fr hw
                  replace hA := hA.fr hw.size
                  replace hF := hF.trans hw
                  clear hs hF' hw
                  refine seqR_nil ?_
                  exact Exists.intro k (And.intro (Nat.lt_succ_self k) ⟨_, _, _, u121, hr, hA, hF, hAA, hO, h1, h3, h4, h5, f_u121⟩)
            · have hr := cnd_f c76 hr
              refine HT.exit ?_
              obtain rfl := Option.some.inj hr
              exact Exists.intro _ ⟨_, wl_3, rfl, hA, hF, hAA, hO, h1, h3, h4, f_wl_3⟩
          rintro R w ⟨A, s72, wo_3, es, hA, hF, hAA, hO, h1, h3, h4, f_wo_3⟩
          obtain rfl := es.symm
          obtain ⟨e123, hr⟩ := ck_some hr
          refine HT.text (l := ⟨_, true, .raw (.int .i64 y11)⟩ :: ⟨_, true, .raw (.int .i64 (y11 + (1 : Int)))⟩ :: ⟨_, true, .raw (.int .i64 (y11 + (1 : Int)))⟩ :: []) (tl := []) (by kernel_rfl) (by kernel_rfl) (by kernel_rfl) ?_ ?_
          · exact
              Obls.cons (Obl.plain rfl rfl fun R' w' hw hs hd => by have a0 : R' 4 = .int .i64 y11 := (hs 4 rfl).trans h4; exact of_move a0) <|
              Obls.cons (Obl.plain rfl rfl fun R' w' hw hs hd => by have a0 : R' 15 = .int .i64 y11 := hd 0 _ _ _ rfl rfl rfl rfl rfl; exact of_add a0 rfl e123) <|
              Obls.cons (Obl.plain rfl rfl fun R' w' hw hs hd => by have a0 : R' 16 = .int .i64 (y11 + (1 : Int)) := hd 0 _ _ _ rfl rfl rfl rfl rfl; exact of_assign a0) <|
              Obls.nil
          intro R w hw hs hF'
          replace h1 : R 1 = (.pointer (some ⟨b1_0, 0, none⟩)) := (hs 1 rfl).trans h1
          replace h3 : R 3 = wo_3 := (hs 3 rfl).trans h3
          have h4 : R 4 = .int .i64 (y11 + (1 : Int)) := hF' 2 _ _ rfl rfl rfl
          replace f_wo_3 := f_wo_3.fr hw
          replace hO := hO.fr hw
          replace hA := hA.fr hw.size
          replace hF := hF.trans hw
          clear hs hF' hw
          refine seqR_nil ?_
          exact Exists.intro k (And.intro (Nat.lt_succ_self k) ⟨_, _, _, wo_3, hr, hA, hF, hAA, hO, h1, h3, h4, f_wo_3⟩)
      · have hr := cnd_f c12 hr
        refine HT.exit ?_
        obtain rfl := Option.some.inj hr
        replace hO : IniOK [] A w := hO.sub [] trivial
        exact Exists.intro _ ⟨_, wl_3, rfl, hA, hF, hAA, hO, h3, f_wl_3⟩
    rintro R w ⟨A, s9, wo_3, es, hA, hF, hAA, hO, h3, f_wo_3⟩
    obtain rfl := es.symm
    refine HT.seq ?_
    refine HT.text (l := ⟨_, true, .raw wo_3⟩ :: ⟨_, true, .raw wo_3⟩ :: []) (tl := []) (by kernel_rfl) (by kernel_rfl) (by kernel_rfl) ?_ ?_
    · exact
        Obls.cons (Obl.plain rfl rfl fun R' w' hw hs hd => by have a0 : R' 3 = wo_3 := (hs 3 rfl).trans h3; exact of_move a0) <|
        Obls.cons (Obl.plain rfl rfl fun R' w' hw hs hd => by have a0 : R' 61 = wo_3 := hd 0 _ _ _ rfl rfl rfl rfl rfl; exact of_assign a0) <|
        Obls.nil
    intro R w hw hs hF'
    have h2 : R 2 = wo_3 := hF' 1 _ _ rfl rfl rfl
    replace f_wo_3 := f_wo_3.fr hw
    replace hO := hO.fr hw
    replace hA := hA.fr hw.size
    replace hF := hF.trans hw
    clear hs hF' hw
    refine seqR_nil ?_
    refine HT.ret ?_
    obtain rfl := Option.some.inj hr
    exact ⟨.inr rfl, [R 2], ⟨rfl, trivial⟩, (f_wo_3.eq h2).down hAA, hF⟩
def M_spec_ParseRules_L1 (fu : Nat) (x27 : List (List UInt8)) : Nat → Int → T_impl_Rule → Option T_impl_Rule
  | 0, _, _ => none
  | k + 1, y33, y34 =>
    bd ((decide (y33 < (x27.length : Int))) && (decide (y33 ≤ (3 : Int)))) fun x35 =>
    bif x35 then (
      ck (inR y33 x27.length) <|
      cl true (M_spec_l14Test fu (gtD x27 y33)) fun x41 =>
      ck (lenOK (y34.length + ([x41] : List T_impl_Test).length)) <|
      ck (i64B (y33 + (1 : Int))) <|
      M_spec_ParseRules_L1 fu x27 k (y33 + (1 : Int)) (y34 ++ ([x41] : List T_impl_Test))
    ) else (
      some y34
    )
def M_spec_ParseRules_L0 (fu : Nat) (x11 : List (List UInt8)) : Nat → Int → T_impl_RuleSet → T_impl_Rule → Option T_impl_RuleSet
  | 0, _, _, _ => none
  | k + 1, y17, y18, y19 =>
    bd ((decide (y17 < (x11.length : Int))) && (decide (y17 ≤ (6 : Int)))) fun x20 =>
    bif x20 then (
      ck ((2 : Int) != 0) <|
      bif ((y17.tmod (2 : Int)) == (1 : Int)) then (
        ck (i64B (y17 + (1 : Int))) <|
        M_spec_ParseRules_L0 fu x11 k (y17 + (1 : Int)) y18 y19
      ) else (
        ck (inR y17 x11.length) <|
        cl true (M_spec_l2Cut fu (gtD x11 y17) (44 : Int)) fun x27 =>
        cl true (M_spec_ParseRules_L1 fu x27 fu (0 : Int) y19) fun s32 =>
        ck (lenOK (y18.length + ([s32] : List T_impl_Rule).length)) <|
        ck (i64B (y17 + (1 : Int))) <|
        M_spec_ParseRules_L0 fu x11 k (y17 + (1 : Int)) (y18 ++ ([s32] : List T_impl_Rule)) ([] : List T_impl_Test)
      )
    ) else (
      some y18
    )
def M_spec_ParseRules (fu : Nat) (p0 : List UInt8) : Option (T_impl_RuleSet × Bool) :=
  cl true (M_spec_l2Cut fu p0 (32 : Int)) fun x11 =>
  cl true (M_spec_ParseRules_L0 fu x11 fu (0 : Int) ([] : List T_impl_Rule) ([] : List T_impl_Test)) fun s16 =>
  cl (true && ((p0 == ([] : List UInt8)) == false)) (M_spec_FormatRules fu s16) fun x65 =>
  bd ((p0 == ([] : List UInt8)) || (!(x65 == p0))) fun x67 =>
  bif x67 then (
    some (([] : List T_impl_Rule), false)
  ) else (
    some (s16, true)
  )
set_option linter.unusedSimpArgs false in
set_option maxRecDepth 100000 in
set_option maxHeartbeats 4000000 in
theorem M_spec_ParseRules_ok {fu : Nat} {A0 : Av} {p0 : List UInt8} {r : T_impl_RuleSet × Bool} (hr : M_spec_ParseRules fu p0 = some r) {w : World} {v0 : Value} (hA : AvOK A0 w) (h0 : Rep eStr A0 w v0 p0) :
    Calls Tryd.prog 4 #[v0] w fun e w' => ∃ v, e = .returned v ∧ ((∃ a b, v = .tuple #[a, b] ∧ Rep E_impl_RuleSet A0 w' a r.1 ∧ b = .bool r.2) ∧ Fr w w') := by
  unfold M_spec_ParseRules at hr
  obtain ⟨w0, hw0⟩ : ∃ w0, w0 = w := ⟨_, rfl⟩
  have hF : Fr w0 w := hw0 ▸ Fr.refl _
  have hA0 : ∀ b o, A0 b o → b < w0.heap.size := fun b o h => hw0 ▸ hA b o h
  have hA00 : AvOK A0 w0 := hA0
  rw [show Fr w = Fr w0 from hw0 ▸ rfl]
  clear hw0
  obtain ⟨A, hAe⟩ : ∃ A, A = A0 := ⟨_, rfl⟩
  have hAA : ∀ b o, A0 b o → A b o := fun b o h => hAe ▸ h
  replace hA : AvOK A w := hAe ▸ hA
  have hO : IniOK [] A w := IniOK.nil
  refine calls_of_HT2 [.cell 2 24, .tmp 3] Tryd.func4 Tryd.ntmps4 (by decide) rfl rfl (Nat.le_of_ble_eq_true rfl) ?_
  intro R hR
  have f_v0 : Rep eStr A w v0 p0 := hAe ▸ h0
  replace h0 : R 0 = v0 := hR 0 _ rfl
  clear hR hAe
  refine HT.seq ?_
  refine HT.textR [] (⟨_, true, [], some (.box w0.heap.size 24 E_impl_RuleSet ([] : List T_impl_Rule)), true, fun A => .any⟩ :: ⟨_, true, [], none, true, fun A => .raw (.bool false)⟩ :: []) (by kernel_rfl) (by kernel_rfl) (Wf.mk' (by kernel_rfl) (UAll.cons ust_any (UAll.cons ust_raw (UAll.nil))) (by kernel_rfl) (by kernel_rfl)) hO hA ?_ ?_
  · exact
      OblsR.cons (OblR.made _ rfl rfl rfl rfl fun A' R' w' ho hd => by exact made_alloc Tryd.zeroValue24 (fun A w => rep1_nil) (Nat.le_trans hF.size ho.ch.size)) <|
      OblsR.cons (OblR.plain rfl rfl rfl rfl fun A' R' w' ho hd => by exact of_assign rfl) <|
      OblsR.nil
  intro done ρ σ A R w hdn hI
  replace h0 : R 0 = v0 := (hI.reg rfl).trans h0
  obtain ⟨b2_0, e_b2_0⟩ := hI.boxv hdn 0 rfl rfl
  have h2 : R 2 = (.pointer (some ⟨b2_0, 0, none⟩)) := (hI.opvR hdn 0 0 rfl rfl rfl rfl rfl).symm.trans e_b2_0
  replace f_v0 := f_v0.stp hI.stp
  replace hAA := hI.low' hAA hA0 (hO.ge (trivial))
  replace hF : Fr w0 w := hF.tr hI.ch (hO.ge (trivial))
  replace hO : IniOK [ob (.pointer (some ⟨b2_0, 0, none⟩)) (.box w0.heap.size 24 E_impl_RuleSet ([] : List T_impl_Rule))] A w := hI.left hdn [(0, ob (.pointer (some ⟨b2_0, 0, none⟩)) (.box w0.heap.size 24 E_impl_RuleSet ([] : List T_impl_Rule)))] ⟨rfl, rfl, e_b2_0, rfl, rfl, trivial⟩
  replace hA := hI.avok
  clear hI
  refine HT.seq ?_
  refine HT.textR [ob (.pointer (some ⟨b2_0, 0, none⟩)) (.box w0.heap.size 24 E_impl_RuleSet ([] : List T_impl_Rule))] (⟨_, true, [], some (trR (geB w0.heap.size) (oBx (oSl 32 (oRd E_impl_Rule))) ([] : List T_impl_Rule) []), true, fun A => .any⟩ :: ⟨_, true, [], some (trR (geB w0.heap.size) (oPt 24 (oBx (oSl 32 (oRd E_impl_Rule)))) ([] : List T_impl_Rule) []), true, fun A => .any⟩ :: ⟨_, true, [2, 1], some (trR (geB w0.heap.size) (oPt 24 (oBx (oSl 32 (oRd E_impl_Rule)))) ([] : List T_impl_Rule) []), false, fun A => .any⟩ :: []) (by kernel_rfl) (by kernel_rfl) (Wf.mk' (by kernel_rfl) (UAll.cons ust_any (UAll.cons ust_any (UAll.cons ust_any (UAll.nil)))) (by kernel_rfl) (by kernel_rfl)) hO hA ?_ ?_
  · exact
      OblsR.cons (OblR.madeS _ rfl rfl rfl rfl fun A' R' w' ho hd => by exact made_valT (v := .agg #[.slice none 0 0]) (by simp [execOp, Instr.build, evalR, underlying, Tryd.underlying24, Tryd.zeroValue24, Tryd.sizeOf22, go_sem, Instr.fill]) ⟨⟨_, rfl, own_nil⟩, fun q hq => by cases hq⟩ (fun k hk => Nat.le_trans (Nat.le_trans hF.size ho.ch.size) hk)) <|
      OblsR.cons (OblR.madeS _ rfl rfl rfl rfl fun A' R' w' ho hd => by exact made_allocT Tryd.zeroValue24 (fun A w => own_nil) (fun k hk => Nat.le_trans (Nat.le_trans hF.size ho.ch.size) hk)) <|
      OblsR.cons (OblR.tookM 2 [1] _ rfl rfl rfl rfl fun A' R' w' ho hd ρ σ hok hav hin hop hds hdd => by have k1 := hok 2 (.head _) _ rfl; exact took_put2 rfl (tr_root k1.2.2).ptr (hok 1 (.tail _ (.head _)) _ rfl).2.2.1 (hop 1 (.tail _ (.head _)) _ _ rfl rfl rfl rfl).symm (hop 2 (.head _) _ _ rfl rfl rfl rfl).symm hav hdd k1.2.1 (hok 1 (.tail _ (.head _)) _ rfl).2.1 Tryd.sizeOf24 (fun _ _ _ h => h)) <|
      OblsR.nil
  intro done ρ σ A R w hdn hI
  replace h0 : R 0 = v0 := (hI.reg rfl).trans h0
  replace h2 : R 2 = (.pointer (some ⟨b2_0, 0, none⟩)) := (hI.reg rfl).trans h2
  have z2 := hI.inivR 0 rfl
  obtain ⟨u3, e_u3⟩ : ∃ u, ρ 3 = u := ⟨_, rfl⟩
  have z4 := (hI.opnR hdn 3 2 rfl rfl rfl rfl rfl).symm.trans e_u3
  have h4 : R 4 = u3 := (hI.opvR hdn 2 1 rfl rfl rfl rfl rfl).symm.trans z4
  obtain ⟨S5, eS_u3⟩ : ∃ S, σ 3 = S := ⟨_, rfl⟩
  replace f_v0 := f_v0.stp hI.stp
  replace hAA := hI.low' hAA hA0 (hO.ge (⟨rfl, trivial⟩))
  replace hF : Fr w0 w := hF.tr hI.ch (hO.ge (⟨rfl, trivial⟩))
  replace hO : IniOK [ob (.pointer (some ⟨b2_0, 0, none⟩)) (.box w0.heap.size 24 E_impl_RuleSet ([] : List T_impl_Rule)), ⟨u3, S5, trR (geB w0.heap.size) (oPt 24 (oBx (oSl 32 (oRd E_impl_Rule)))) ([] : List T_impl_Rule) []⟩] A w := hI.left hdn [(0, ob (.pointer (some ⟨b2_0, 0, none⟩)) (.box w0.heap.size 24 E_impl_RuleSet ([] : List T_impl_Rule))), (3, ⟨u3, S5, trR (geB w0.heap.size) (oPt 24 (oBx (oSl 32 (oRd E_impl_Rule)))) ([] : List T_impl_Rule) []⟩)] ⟨rfl, rfl, z2, rfl, rfl, ⟨rfl, rfl, e_u3, eS_u3, rfl, trivial⟩⟩
  replace hA := hI.avok
  clear hI
  refine HT.seq ?_
  refine HT.textR [ob (.pointer (some ⟨b2_0, 0, none⟩)) (.box w0.heap.size 24 E_impl_RuleSet ([] : List T_impl_Rule)), ⟨u3, S5, trR (geB w0.heap.size) (oPt 24 (oBx (oSl 32 (oRd E_impl_Rule)))) ([] : List T_impl_Rule) []⟩] (⟨_, true, [], some (trR (geB w0.heap.size) (oBx (oSl 36 (oRd E_impl_Test))) ([] : List T_impl_Test) []), true, fun A => .any⟩ :: ⟨_, true, [], some (trR (geB w0.heap.size) (oPt 32 (oBx (oSl 36 (oRd E_impl_Test)))) ([] : List T_impl_Test) []), true, fun A => .any⟩ :: ⟨_, true, [3, 2], some (trR (geB w0.heap.size) (oPt 32 (oBx (oSl 36 (oRd E_impl_Test)))) ([] : List T_impl_Test) []), false, fun A => .any⟩ :: []) (by kernel_rfl) (by kernel_rfl) (Wf.mk' (by kernel_rfl) (UAll.cons ust_any (UAll.cons ust_any (UAll.cons ust_any (UAll.nil)))) (by kernel_rfl) (by kernel_rfl)) hO hA ?_ ?_
  · exact
      OblsR.cons (OblR.madeS _ rfl rfl rfl rfl fun A' R' w' ho hd => by exact made_valT (v := .agg #[.slice none 0 0]) (by simp [execOp, Instr.build, evalR, underlying, Tryd.underlying32, Tryd.zeroValue32, Tryd.sizeOf30, go_sem, Instr.fill]) ⟨⟨_, rfl, own_nil⟩, fun q hq => by cases hq⟩ (fun k hk => Nat.le_trans (Nat.le_trans hF.size ho.ch.size) hk)) <|
      OblsR.cons (OblR.madeS _ rfl rfl rfl rfl fun A' R' w' ho hd => by exact made_allocT Tryd.zeroValue32 (fun A w => own_nil) (fun k hk => Nat.le_trans (Nat.le_trans hF.size ho.ch.size) hk)) <|
      OblsR.cons (OblR.tookM 3 [2] _ rfl rfl rfl rfl fun A' R' w' ho hd ρ σ hok hav hin hop hds hdd => by have k1 := hok 3 (.head _) _ rfl; exact took_put2 rfl (tr_root k1.2.2).ptr (hok 2 (.tail _ (.head _)) _ rfl).2.2.1 (hop 2 (.tail _ (.head _)) _ _ rfl rfl rfl rfl).symm (hop 3 (.head _) _ _ rfl rfl rfl rfl).symm hav hdd k1.2.1 (hok 2 (.tail _ (.head _)) _ rfl).2.1 Tryd.sizeOf32 (fun _ _ _ h => h)) <|
      OblsR.nil
  intro done ρ σ A R w hdn hI
  replace h0 : R 0 = v0 := (hI.reg rfl).trans h0
  replace h2 : R 2 = (.pointer (some ⟨b2_0, 0, none⟩)) := (hI.reg rfl).trans h2
  replace h4 : R 4 = u3 := (hI.reg rfl).trans h4
  have z6 := hI.inivR 0 rfl
  have z7 := hI.inivR 1 rfl
  obtain ⟨u8, e_u8⟩ : ∃ u, ρ 4 = u := ⟨_, rfl⟩
  have z9 := (hI.opnR hdn 4 2 rfl rfl rfl rfl rfl).symm.trans e_u8
  have h5 : R 5 = u8 := (hI.opvR hdn 3 1 rfl rfl rfl rfl rfl).symm.trans z9
  have eS_u3 := hI.inisR 1 rfl
  obtain ⟨S10, eS_u8⟩ : ∃ S, σ 4 = S := ⟨_, rfl⟩
  replace f_v0 := f_v0.stp hI.stp
  replace hAA := hI.low' hAA hA0 (hO.ge (⟨rfl, ⟨fun _ h => h, trivial⟩⟩))
  replace hF : Fr w0 w := hF.tr hI.ch (hO.ge (⟨rfl, ⟨fun _ h => h, trivial⟩⟩))
  replace hO : IniOK [ob (.pointer (some ⟨b2_0, 0, none⟩)) (.box w0.heap.size 24 E_impl_RuleSet ([] : List T_impl_Rule)), ⟨u3, S5, trR (geB w0.heap.size) (oPt 24 (oBx (oSl 32 (oRd E_impl_Rule)))) ([] : List T_impl_Rule) []⟩, ⟨u8, S10, trR (geB w0.heap.size) (oPt 32 (oBx (oSl 36 (oRd E_impl_Test)))) ([] : List T_impl_Test) []⟩] A w := hI.left hdn [(0, ob (.pointer (some ⟨b2_0, 0, none⟩)) (.box w0.heap.size 24 E_impl_RuleSet ([] : List T_impl_Rule))), (1, ⟨u3, S5, trR (geB w0.heap.size) (oPt 24 (oBx (oSl 32 (oRd E_impl_Rule)))) ([] : List T_impl_Rule) []⟩), (4, ⟨u8, S10, trR (geB w0.heap.size) (oPt 32 (oBx (oSl 36 (oRd E_impl_Test)))) ([] : List T_impl_Test) []⟩)] ⟨rfl, rfl, z6, rfl, rfl, ⟨rfl, rfl, z7, eS_u3, rfl, ⟨rfl, rfl, e_u8, eS_u8, rfl, trivial⟩⟩⟩
  replace hA := hI.avok
  clear hI
  refine HT.seq ?_
  obtain ⟨x11, q12, hr⟩ := cl_some hr
  refine HT.text (l := ⟨_, true, .raw v0⟩ :: ⟨_, true, .rep (eSl eStr) A x11⟩ :: ⟨_, true, .rep (eSl eStr) A x11⟩ :: []) (tl := []) (by kernel_rfl) (by kernel_rfl) (by kernel_rfl) ?_ ?_
  · exact
      Obls.cons (Obl.plain rfl rfl fun R' w' hw hs hd => by have a0 : R' 0 = v0 := (hs 0 rfl).trans h0; exact of_move a0) <|
      Obls.cons (Obl.plain rfl rfl fun R' w' hw hs hd => by have a0 : R' 12 = v0 := hd 0 _ _ _ rfl rfl rfl rfl rfl; have ra0 := (f_v0.fr hw).eq a0; exact of_call Tryd.call9 (M_spec_l2Cut_okR (q12 rfl) (hA.fr hw.size) ra0 rfl)) <|
      Obls.cons (Obl.plain rfl rfl fun R' w' hw hs hd => by have a0 : Rep (eSl eStr) A w' (R' 13) x11 := hd 0 _ _ _ rfl rfl rfl rfl rfl; exact of_assign a0) <|
      Obls.nil
  intro R w hw hs hF'
  replace h0 : R 0 = v0 := (hs 0 rfl).trans h0
  replace h2 : R 2 = (.pointer (some ⟨b2_0, 0, none⟩)) := (hs 2 rfl).trans h2
  replace h4 : R 4 = u3 := (hs 4 rfl).trans h4
  replace h5 : R 5 = u8 := (hs 5 rfl).trans h5
  obtain ⟨u13, h6, f_u13⟩ : ∃ u, R 6 = u ∧ Rep (eSl eStr) A w u x11 := ⟨_, rfl, hF' 2 _ _ rfl rfl rfl⟩
  replace f_v0 := f_v0.fr hw
  replace hO := hO.fr hw
  replace hA := hA.fr hw.size
  replace hF := hF.trans hw
  clear hs hF' hw
  refine seqR_nil ?_
  refine HT.seq ?_
  refine HT.seq ?_
  refine HT.text (l := ⟨_, true, .raw (.int .i64 (0 : Int))⟩ :: []) (tl := []) (by kernel_rfl) (by kernel_rfl) (by kernel_rfl) ?_ ?_
  · exact
      Obls.cons (Obl.plain rfl rfl fun R' w' hw hs hd => by exact of_assign rfl) <|
      Obls.nil
  intro R w hw hs hF'
  replace h0 : R 0 = v0 := (hs 0 rfl).trans h0
  replace h2 : R 2 = (.pointer (some ⟨b2_0, 0, none⟩)) := (hs 2 rfl).trans h2
  replace h4 : R 4 = u3 := (hs 4 rfl).trans h4
  replace h5 : R 5 = u8 := (hs 5 rfl).trans h5
  replace h6 : R 6 = u13 := (hs 6 rfl).trans h6
  have h7 : R 7 = .int .i64 (0 : Int) := hF' 0 _ _ rfl rfl rfl
  replace f_u13 := f_u13.fr hw
  replace f_v0 := f_v0.fr hw
  replace hO := hO.fr hw
  replace hA := hA.fr hw.size
  replace hF := hF.trans hw
  clear hs hF' hw
  refine seqR_nil ?_
  obtain ⟨rl14, q15, hr⟩ := cl_some hr
  replace q15 := q15 rfl
  refine HT.cut0 (fun R w => ∃ A : Av, ∃ (s16 : T_impl_RuleSet) (So_u3 : Nat → Prop), rl14 = s16 ∧ AvOK A w ∧ Fr w0 w ∧ (∀ b o, A0 b o → A b o) ∧ IniOK [ob (.pointer (some ⟨b2_0, 0, none⟩)) (.box w0.heap.size 24 E_impl_RuleSet ([] : List T_impl_Rule)), ⟨u3, So_u3, trR (geB w0.heap.size) (oPt 24 (oBx (oSl 32 (oRd E_impl_Rule)))) s16 []⟩] A w ∧ R 0 = v0 ∧ R 2 = (.pointer (some ⟨b2_0, 0, none⟩)) ∧ R 4 = u3 ∧ Rep eStr A w v0 p0) ?_ ?_
  · refine HT.block ?_
    refine HT.loop (fun k R w => ∃ A : Av, ∃ (y17 : Int) (y18 : T_impl_RuleSet) (y19 : T_impl_Rule) (Sl_u3 : Nat → Prop) (Sl_u8 : Nat → Prop), M_spec_ParseRules_L0 fu x11 k y17 y18 y19 = some rl14 ∧ AvOK A w ∧ Fr w0 w ∧ (∀ b o, A0 b o → A b o) ∧ IniOK [ob (.pointer (some ⟨b2_0, 0, none⟩)) (.box w0.heap.size 24 E_impl_RuleSet ([] : List T_impl_Rule)), ⟨u3, Sl_u3, trR (geB w0.heap.size) (oPt 24 (oBx (oSl 32 (oRd E_impl_Rule)))) y18 []⟩, ⟨u8, Sl_u8, trR (geB w0.heap.size) (oPt 32 (oBx (oSl 36 (oRd E_impl_Test)))) y19 []⟩] A w ∧ R 0 = v0 ∧ R 2 = (.pointer (some ⟨b2_0, 0, none⟩)) ∧ R 4 = u3 ∧ R 5 = u8 ∧ R 6 = u13 ∧ R 7 = .int .i64 y17 ∧ Rep (eSl eStr) A w u13 x11 ∧ Rep eStr A w v0 p0) fu ⟨_, _, _, _, S5, S10, q15, hA, hF, hAA, hO, h0, h2, h4, h5, h6, h7, f_u13, f_v0⟩ ?_
    have hr0 := hr; clear hr q15
    rintro k R w ⟨A, y17, y18, y19, Sl_u3, Sl_u8, hr, hA, hF, hAA, hO, h0, h2, h4, h5, h6, h7, f_u13, f_v0⟩
    rcases k with _ | k
    · cases (show none = some _ from hr)
    rw [M_spec_ParseRules_L0] at hr
    refine HT.seq ?_
    refine HT.seq ?_
    obtain ⟨x20, q21, hr⟩ := bd_some hr
    refine HT.text (l := ⟨_, true, .raw (.int .i64 y17)⟩ :: ⟨_, true, .raw u13⟩ :: ⟨_, true, .raw (.int .i64 (x11.length : Int))⟩ :: ⟨_, true, .raw (.bool (decide (y17 < (x11.length : Int))))⟩ :: ⟨_, true, .raw (.bool (decide (y17 < (x11.length : Int))))⟩ :: ⟨_, (true && ((decide (y17 < (x11.length : Int))) == true)), .raw (.int .i64 y17)⟩ :: ⟨_, (true && ((decide (y17 < (x11.length : Int))) == true)), .raw (.bool (decide (y17 ≤ (6 : Int))))⟩ :: ⟨_, true, .raw (.bool x20)⟩ :: []) (tl := []) (by kernel_rfl) (by kernel_rfl) (by kernel_rfl) ?_ ?_
    · exact
        Obls.cons (Obl.plain rfl rfl fun R' w' hw hs hd => by have a0 : R' 7 = .int .i64 y17 := (hs 7 rfl).trans h7; exact of_move a0) <|
        Obls.cons (Obl.plain rfl rfl fun R' w' hw hs hd => by have a0 : R' 6 = u13 := (hs 6 rfl).trans h6; exact of_move a0) <|
        Obls.cons (Obl.plain rfl rfl fun R' w' hw hs hd => by have a0 : R' 15 = u13 := hd 0 _ _ _ rfl rfl rfl rfl rfl; have ra0 := (f_u13.fr hw).eq a0; exact of_len_sl (aT := #[]) ra0 Tryd.underlying33) <|
        Obls.cons (Obl.plain rfl rfl fun R' w' hw hs hd => by have a0 : R' 14 = .int .i64 y17 := hd 0 _ _ _ rfl rfl rfl rfl rfl; have a1 : R' 16 = .int .i64 (x11.length : Int) := hd 1 _ _ _ rfl rfl rfl rfl rfl; exact of_lss a0 a1) <|
        Obls.cons (Obl.plain rfl rfl fun R' w' hw hs hd => by have a0 : R' 17 = .bool (decide (y17 < (x11.length : Int))) := hd 0 _ _ _ rfl rfl rfl rfl rfl; exact of_move a0) <|
        Obls.cons (Obl.grd 4 true _ _ _ rfl rfl rfl rfl rfl (by kernel_rfl) fun hg R' w' hw hs hd => by have a0 : R' 7 = .int .i64 y17 := (hs 7 rfl).trans h7; exact of_move a0) <|
        Obls.cons (Obl.grd 4 true _ _ _ rfl rfl rfl rfl rfl (by kernel_rfl) fun hg R' w' hw hs hd => by have a0 : R' 19 = .int .i64 y17 := hd 0 _ _ _ rfl rfl rfl rfl hg; exact of_leq a0 rfl) <|
        Obls.cons (Obl.plain rfl rfl fun R' w' hw hs hd => by have a0 : R' 18 = .bool (decide (y17 < (x11.length : Int))) := hd 0 _ _ _ rfl rfl rfl rfl rfl; exact of_pick (decide (y17 < (x11.length : Int))) a0 (fun hc => by have a1 : R' 20 = .bool (decide (y17 ≤ (6 : Int))) := hd 1 _ _ _ rfl rfl rfl rfl (g_and rfl (beq_of hc)); show _ = Value.bool x20; rw [q21, hc]; exact a1) (fun hc => by show _ = Value.bool x20; rw [q21, hc]; exact rfl)) <|
        Obls.nil
    intro R w hw hs hF'
    replace h0 : R 0 = v0 := (hs 0 rfl).trans h0
    replace h2 : R 2 = (.pointer (some ⟨b2_0, 0, none⟩)) := (hs 2 rfl).trans h2
    replace h4 : R 4 = u3 := (hs 4 rfl).trans h4
    replace h5 : R 5 = u8 := (hs 5 rfl).trans h5
    replace h6 : R 6 = u13 := (hs 6 rfl).trans h6
    replace h7 : R 7 = .int .i64 y17 := (hs 7 rfl).trans h7
    have h21 : R 21 = .bool x20 := hF' 7 _ _ rfl rfl rfl
    replace f_u13 := f_u13.fr hw
    replace f_v0 := f_v0.fr hw
    replace hO := hO.fr hw
    replace hA := hA.fr hw.size
    replace hF := hF.trans hw
    clear hs hF' hw
    refine seqR_nil ?_
    refine HT.cond x20 h21 (fun c22 => ?_) (fun c22 => ?_)
    · have hr := cnd_t c22 hr
      refine HT.skip ?_
      refine HT.seq ?_
      refine HT.block ?_
      refine HT.seq ?_
      refine HT.seq ?_
      obtain ⟨e23, hr⟩ := ck_some hr
      refine HT.text (l := ⟨_, true, .raw (.int .i64 y17)⟩ :: ⟨_, true, .raw (.int .i64 (y17.tmod (2 : Int)))⟩ :: ⟨_, true, .raw (.bool ((y17.tmod (2 : Int)) == (1 : Int)))⟩ :: []) (tl := []) (by kernel_rfl) (by kernel_rfl) (by kernel_rfl) ?_ ?_
      · exact
          Obls.cons (Obl.plain rfl rfl fun R' w' hw hs hd => by have a0 : R' 7 = .int .i64 y17 := (hs 7 rfl).trans h7; exact of_move a0) <|
          Obls.cons (Obl.plain rfl rfl fun R' w' hw hs hd => by have a0 : R' 24 = .int .i64 y17 := hd 0 _ _ _ rfl rfl rfl rfl rfl; exact of_rem a0 rfl e23) <|
          Obls.cons (Obl.plain rfl rfl fun R' w' hw hs hd => by have a0 : R' 25 = .int .i64 (y17.tmod (2 : Int)) := hd 0 _ _ _ rfl rfl rfl rfl rfl; exact of_eql a0 rfl) <|
          Obls.nil
      intro R w hw hs hF'
      replace h0 : R 0 = v0 := (hs 0 rfl).trans h0
      replace h2 : R 2 = (.pointer (some ⟨b2_0, 0, none⟩)) := (hs 2 rfl).trans h2
      replace h4 : R 4 = u3 := (hs 4 rfl).trans h4
      replace h5 : R 5 = u8 := (hs 5 rfl).trans h5
      replace h6 : R 6 = u13 := (hs 6 rfl).trans h6
      replace h7 : R 7 = .int .i64 y17 := (hs 7 rfl).trans h7
      have h26 : R 26 = .bool ((y17.tmod (2 : Int)) == (1 : Int)) := hF' 2 _ _ rfl rfl rfl
      replace f_u13 := f_u13.fr hw
      replace f_v0 := f_v0.fr hw
      replace hO := hO.fr hw
      replace hA := hA.fr hw.size
      replace hF := hF.trans hw
      clear hs hF' hw
      refine seqR_nil ?_
      refine HT.cond ((y17.tmod (2 : Int)) == (1 : Int)) h26 (fun c24 => ?_) (fun c24 => ?_)
      · have hr := cnd_t c24 hr
        refine HT.exit ?_
        obtain ⟨e25, hr⟩ := ck_some hr
        refine HT.text (l := ⟨_, true, .raw (.int .i64 y17)⟩ :: ⟨_, true, .raw (.int .i64 (y17 + (1 : Int)))⟩ :: ⟨_, true, .raw (.int .i64 (y17 + (1 : Int)))⟩ :: []) (tl := []) (by kernel_rfl) (by kernel_rfl) (by kernel_rfl) ?_ ?_
        · exact
            Obls.cons (Obl.plain rfl rfl fun R' w' hw hs hd => by have a0 : R' 7 = .int .i64 y17 := (hs 7 rfl).trans h7; exact of_move a0) <|
            Obls.cons (Obl.plain rfl rfl fun R' w' hw hs hd => by have a0 : R' 22 = .int .i64 y17 := hd 0 _ _ _ rfl rfl rfl rfl rfl; exact of_add a0 rfl e25) <|
            Obls.cons (Obl.plain rfl rfl fun R' w' hw hs hd => by have a0 : R' 23 = .int .i64 (y17 + (1 : Int)) := hd 0 _ _ _ rfl rfl rfl rfl rfl; exact of_assign a0) <|
            Obls.nil
        intro R w hw hs hF'
        replace h0 : R 0 = v0 := (hs 0 rfl).trans h0
        replace h2 : R 2 = (.pointer (some ⟨b2_0, 0, none⟩)) := (hs 2 rfl).trans h2
        replace h4 : R 4 = u3 := (hs 4 rfl).trans h4
        replace h5 : R 5 = u8 := (hs 5 rfl).trans h5
        replace h6 : R 6 = u13 := (hs 6 rfl).trans h6
        have h7 : R 7 = .int .i64 (y17 + (1 : Int)) := hF' 2 _ _ rfl rfl rfl
        replace f_u13 := f_u13.fr hw
        replace f_v0 := f_v0.fr hw
        replace hO := hO.fr hw
        replace hA := hA.fr hw.size
        replace hF := hF.trans hw
        clear hs hF' hw
        refine seqR_nil ?_
        exact Exists.intro k (And.intro (Nat.lt_succ_self k) ⟨_, _, _, _, Sl_u3, Sl_u8, hr, hA, hF, hAA, hO, h0, h2, h4, h5, h6, h7, f_u13, f_v0⟩)
      · have hr := cnd_f c24 hr
        refine HT.skip ?_
        refine HT.seq ?_
        obtain ⟨e26, hr⟩ := ck_some hr
        obtain ⟨x27, q28, hr⟩ := cl_some hr
        refine HT.text (l := ⟨_, true, .raw u13⟩ :: ⟨_, true, .raw (.int .i64 y17)⟩ :: ⟨_, true, .qtr eStr A (gtD x11 y17)⟩ :: ⟨_, true, .rep eStr A (gtD x11 y17)⟩ :: ⟨_, true, .rep (eSl eStr) A x27⟩ :: ⟨_, true, .rep (eSl eStr) A x27⟩ :: []) (tl := []) (by kernel_rfl) (by kernel_rfl) (by kernel_rfl) ?_ ?_
        · exact
            Obls.cons (Obl.plain rfl rfl fun R' w' hw hs hd => by have a0 : R' 6 = u13 := (hs 6 rfl).trans h6; exact of_move a0) <|
            Obls.cons (Obl.plain rfl rfl fun R' w' hw hs hd => by have a0 : R' 7 = .int .i64 y17 := (hs 7 rfl).trans h7; exact of_move a0) <|
            Obls.cons (Obl.plain rfl rfl fun R' w' hw hs hd => by have a0 : R' 27 = u13 := hd 0 _ _ _ rfl rfl rfl rfl rfl; have a1 : R' 28 = .int .i64 y17 := hd 1 _ _ _ rfl rfl rfl rfl rfl; have ra0 := (f_u13.fr hw).eq a0; exact of_indexAddr ra0 a1 Tryd.underlying33 Tryd.sizeOf9 e26) <|
            Obls.cons (Obl.plain rfl rfl fun R' w' hw hs hd => by have a0 : QRep eStr A w' (R' 29) (gtD x11 y17) := hd 0 _ _ _ rfl rfl rfl rfl rfl; exact (of_load a0.ptr Tryd.isAgg9 Tryd.sizeOf9)) <|
            Obls.cons (Obl.plain rfl rfl fun R' w' hw hs hd => by have a0 : Rep eStr A w' (R' 30) (gtD x11 y17) := hd 0 _ _ _ rfl rfl rfl rfl rfl; exact of_call Tryd.call9 (M_spec_l2Cut_okR (q28 rfl) (hA.fr hw.size) a0 rfl)) <|
            Obls.cons (Obl.plain rfl rfl fun R' w' hw hs hd => by have a0 : Rep (eSl eStr) A w' (R' 31) x27 := hd 0 _ _ _ rfl rfl rfl rfl rfl; exact of_assign a0) <|
            Obls.nil
        intro R w hw hs hF'
        replace h0 : R 0 = v0 := (hs 0 rfl).trans h0
        replace h2 : R 2 = (.pointer (some ⟨b2_0, 0, none⟩)) := (hs 2 rfl).trans h2
        replace h4 : R 4 = u3 := (hs 4 rfl).trans h4
        replace h5 : R 5 = u8 := (hs 5 rfl).trans h5
        replace h6 : R 6 = u13 := (hs 6 rfl).trans h6
        replace h7 : R 7 = .int .i64 y17 := (hs 7 rfl).trans h7
        obtain ⟨u29, h8, f_u29⟩ : ∃ u, R 8 = u ∧ Rep (eSl eStr) A w u x27 := ⟨_, rfl, hF' 5 _ _ rfl rfl rfl⟩
        replace f_u13 := f_u13.fr hw
        replace f_v0 := f_v0.fr hw
        replace hO := hO.fr hw
        replace hA := hA.fr hw.size
        replace hF := hF.trans hw
        clear hs hF' hw
        refine seqR_nil ?_
        refine HT.seq ?_
        refine HT.seq ?_
        refine HT.text (l := ⟨_, true, .raw (.int .i64 (0 : Int))⟩ :: []) (tl := []) (by kernel_rfl) (by kernel_rfl) (by kernel_rfl) ?_ ?_
        · exact
            Obls.cons (Obl.plain rfl rfl fun R' w' hw hs hd => by exact of_assign rfl) <|
            Obls.nil
        intro R w hw hs hF'
        replace h0 : R 0 = v0 := (hs 0 rfl).trans h0
        replace h2 : R 2 = (.pointer (some ⟨b2_0, 0, none⟩)) := (hs 2 rfl).trans h2
        replace h4 : R 4 = u3 := (hs 4 rfl).trans h4
        replace h5 : R 5 = u8 := (hs 5 rfl).trans h5
        replace h6 : R 6 = u13 := (hs 6 rfl).trans h6
        replace h7 : R 7 = .int .i64 y17 := (hs 7 rfl).trans h7
        replace h8 : R 8 = u29 := (hs 8 rfl).trans h8
        have h9 : R 9 = .int .i64 (0 : Int) := hF' 0 _ _ rfl rfl rfl
        replace f_u13 := f_u13.fr hw
        replace f_u29 := f_u29.fr hw
        replace f_v0 := f_v0.fr hw
        replace hO := hO.fr hw
        replace hA := hA.fr hw.size
        replace hF := hF.trans hw
        clear hs hF' hw
        refine seqR_nil ?_
        obtain ⟨rl30, q31, hr⟩ := cl_some hr
        replace q31 := q31 rfl
        refine HT.cut0 (fun R w => ∃ A : Av, ∃ (s32 : T_impl_Rule) (So_u8 : Nat → Prop), rl30 = s32 ∧ AvOK A w ∧ Fr w0 w ∧ (∀ b o, A0 b o → A b o) ∧ IniOK [ob (.pointer (some ⟨b2_0, 0, none⟩)) (.box w0.heap.size 24 E_impl_RuleSet ([] : List T_impl_Rule)), ⟨u3, Sl_u3, trR (geB w0.heap.size) (oPt 24 (oBx (oSl 32 (oRd E_impl_Rule)))) y18 []⟩, ⟨u8, So_u8, trR (geB w0.heap.size) (oPt 32 (oBx (oSl 36 (oRd E_impl_Test)))) s32 []⟩] A w ∧ R 0 = v0 ∧ R 2 = (.pointer (some ⟨b2_0, 0, none⟩)) ∧ R 4 = u3 ∧ R 5 = u8 ∧ R 6 = u13 ∧ R 7 = .int .i64 y17 ∧ Rep (eSl eStr) A w u13 x11 ∧ Rep eStr A w v0 p0) ?_ ?_
        · refine HT.block ?_
          refine HT.loop (fun k R w => ∃ A : Av, ∃ (y33 : Int) (y34 : T_impl_Rule) (Sl_u8 : Nat → Prop), M_spec_ParseRules_L1 fu x27 k y33 y34 = some rl30 ∧ AvOK A w ∧ Fr w0 w ∧ (∀ b o, A0 b o → A b o) ∧ IniOK [ob (.pointer (some ⟨b2_0, 0, none⟩)) (.box w0.heap.size 24 E_impl_RuleSet ([] : List T_impl_Rule)), ⟨u3, Sl_u3, trR (geB w0.heap.size) (oPt 24 (oBx (oSl 32 (oRd E_impl_Rule)))) y18 []⟩, ⟨u8, Sl_u8, trR (geB w0.heap.size) (oPt 32 (oBx (oSl 36 (oRd E_impl_Test)))) y34 []⟩] A w ∧ R 0 = v0 ∧ R 2 = (.pointer (some ⟨b2_0, 0, none⟩)) ∧ R 4 = u3 ∧ R 5 = u8 ∧ R 6 = u13 ∧ R 7 = .int .i64 y17 ∧ R 8 = u29 ∧ R 9 = .int .i64 y33 ∧ Rep (eSl eStr) A w u13 x11 ∧ Rep (eSl eStr) A w u29 x27 ∧ Rep eStr A w v0 p0) fu ⟨_, _, _, Sl_u8, q31, hA, hF, hAA, hO, h0, h2, h4, h5, h6, h7, h8, h9, f_u13, f_u29, f_v0⟩ ?_
          have hr0 := hr; clear hr q31
          rintro k R w ⟨A, y33, y34, Sl_u8, hr, hA, hF, hAA, hO, h0, h2, h4, h5, h6, h7, h8, h9, f_u13, f_u29, f_v0⟩
          rcases k with _ | k
          · cases (show none = some _ from hr)
          rw [M_spec_ParseRules_L1] at hr
          refine HT.seq ?_
          refine HT.seq ?_
          obtain ⟨x35, q36, hr⟩ := bd_some hr
          refine HT.text (l := ⟨_, true, .raw (.int .i64 y33)⟩ :: ⟨_, true, .raw u29⟩ :: ⟨_, true, .raw (.int .i64 (x27.length : Int))⟩ :: ⟨_, true, .raw (.bool (decide (y33 < (x27.length : Int))))⟩ :: ⟨_, true, .raw (.bool (decide (y33 < (x27.length : Int))))⟩ :: ⟨_, (true && ((decide (y33 < (x27.length : Int))) == true)), .raw (.int .i64 y33)⟩ :: ⟨_, (true && ((decide (y33 < (x27.length : Int))) == true)), .raw (.bool (decide (y33 ≤ (3 : Int))))⟩ :: ⟨_, true, .raw (.bool x35)⟩ :: []) (tl := []) (by kernel_rfl) (by kernel_rfl) (by kernel_rfl) ?_ ?_
          · exact
              Obls.cons (Obl.plain rfl rfl fun R' w' hw hs hd => by have a0 : R' 9 = .int .i64 y33 := (hs 9 rfl).trans h9; exact of_move a0) <|
              Obls.cons (Obl.plain rfl rfl fun R' w' hw hs hd => by have a0 : R' 8 = u29 := (hs 8 rfl).trans h8; exact of_move a0) <|
              Obls.cons (Obl.plain rfl rfl fun R' w' hw hs hd => by have a0 : R' 33 = u29 := hd 0 _ _ _ rfl rfl rfl rfl rfl; have ra0 := (f_u29.fr hw).eq a0; exact of_len_sl (aT := #[]) ra0 Tryd.underlying33) <|
              Obls.cons (Obl.plain rfl rfl fun R' w' hw hs hd => by have a0 : R' 32 = .int .i64 y33 := hd 0 _ _ _ rfl rfl rfl rfl rfl; have a1 : R' 34 = .int .i64 (x27.length : Int) := hd 1 _ _ _ rfl rfl rfl rfl rfl; exact of_lss a0 a1) <|
              Obls.cons (Obl.plain rfl rfl fun R' w' hw hs hd => by have a0 : R' 35 = .bool (decide (y33 < (x27.length : Int))) := hd 0 _ _ _ rfl rfl rfl rfl rfl; exact of_move a0) <|
              Obls.cons (Obl.grd 4 true _ _ _ rfl rfl rfl rfl rfl (by kernel_rfl) fun hg R' w' hw hs hd => by have a0 : R' 9 = .int .i64 y33 := (hs 9 rfl).trans h9; exact of_move a0) <|
              Obls.cons (Obl.grd 4 true _ _ _ rfl rfl rfl rfl rfl (by kernel_rfl) fun hg R' w' hw hs hd => by have a0 : R' 37 = .int .i64 y33 := hd 0 _ _ _ rfl rfl rfl rfl hg; exact of_leq a0 rfl) <|
              Obls.cons (Obl.plain rfl rfl fun R' w' hw hs hd => by have a0 : R' 36 = .bool (decide (y33 < (x27.length : Int))) := hd 0 _ _ _ rfl rfl rfl rfl rfl; exact of_pick (decide (y33 < (x27.length : Int))) a0 (fun hc => by have a1 : R' 38 = .bool (decide (y33 ≤ (3 : Int))) := hd 1 _ _ _ rfl rfl rfl rfl (g_and rfl (beq_of hc)); show _ = Value.bool x35; rw [q36, hc]; exact a1) (fun hc => by show _ = Value.bool x35; rw [q36, hc]; exact rfl)) <|
              Obls.nil
          intro R w hw hs hF'
          replace h0 : R 0 = v0 := (hs 0 rfl).trans h0
          replace h2 : R 2 = (.pointer (some ⟨b2_0, 0, none⟩)) := (hs 2 rfl).trans h2
          replace h4 : R 4 = u3 := (hs 4 rfl).trans h4
          replace h5 : R 5 = u8 := (hs 5 rfl).trans h5
          replace h6 : R 6 = u13 := (hs 6 rfl).trans h6
          replace h7 : R 7 = .int .i64 y17 := (hs 7 rfl).trans h7
          replace h8 : R 8 = u29 := (hs 8 rfl).trans h8
          replace h9 : R 9 = .int .i64 y33 := (hs 9 rfl).trans h9
          have h39 : R 39 = .bool x35 := hF' 7 _ _ rfl rfl rfl
          replace f_u13 := f_u13.fr hw
          replace f_u29 := f_u29.fr hw
          replace f_v0 := f_v0.fr hw
          replace hO := hO.fr hw
          replace hA := hA.fr hw.size
          replace hF := hF.trans hw
          clear hs hF' hw
          refine seqR_nil ?_
          refine HT.cond x35 h39 (fun c37 => ?_) (fun c37 => ?_)
          · have hr := cnd_t c37 hr
            refine HT.skip ?_
            refine HT.seq ?_
            refine HT.block ?_
            obtain ⟨h38, p_h38⟩ := (((tr_root (hO.own 2 _ rfl).2).ptr).bx).open1 rfl
            replace hO : IniOK [ob (.pointer (some ⟨b2_0, 0, none⟩)) (.box w0.heap.size 24 E_impl_RuleSet ([] : List T_impl_Rule)), ⟨u3, Sl_u3, trR (geB w0.heap.size) (oPt 24 (oBx (oSl 32 (oRd E_impl_Rule)))) y18 []⟩, ⟨u8, Sl_u8, trR (geB w0.heap.size) (oPt 32 (oBx (oSl 36 (oRd E_impl_Test)))) y34 [(u8, [h38])]⟩] A w := hO.repin 2 rfl (trP.pin p_h38)
            obtain ⟨e40, hr⟩ := ck_some hr
            obtain ⟨x41, q42, hr⟩ := cl_some hr
            obtain ⟨e43, hr⟩ := ck_some hr
            refine HT.drawR [ob (.pointer (some ⟨b2_0, 0, none⟩)) (.box w0.heap.size 24 E_impl_RuleSet ([] : List T_impl_Rule)), ⟨u3, Sl_u3, trR (geB w0.heap.size) (oPt 24 (oBx (oSl 32 (oRd E_impl_Rule)))) y18 []⟩, ⟨u8, Sl_u8, trR (geB w0.heap.size) (oPt 32 (oBx (oSl 36 (oRd E_impl_Test)))) y34 [(u8, [h38])]⟩] (⟨_, true, [], none, true, fun A => .raw u8⟩ :: ⟨_, true, [], none, true, fun A => .raw h38⟩ :: ⟨_, true, [], none, true, fun A => .raw u29⟩ :: ⟨_, true, [], none, true, fun A => .raw (.int .i64 y33)⟩ :: ⟨_, true, [], none, true, fun A => .qtr eStr A (gtD x27 y33)⟩ :: ⟨_, true, [], none, true, fun A => .rep eStr A (gtD x27 y33)⟩ :: ⟨_, true, [], none, true, fun A => .rep E_impl_Test A x41⟩ :: ⟨_, true, [], none, true, fun A => .rep (eSl E_impl_Test) A ([x41] : List T_impl_Test)⟩ :: ⟨_, true, [2], some (.gen (geB w0.heap.size) (pdP (oSl 36 (oRd E_impl_Test)) u8 (fun z A w S => (trP (oPt 32 (oBx (oSl 36 (oRd E_impl_Test)))) z []).P A w S u8) (y34 ++ ([x41] : List T_impl_Test)))), true, fun A => .any⟩ :: ⟨_, true, [], none, true, fun A => .raw u8⟩ :: ⟨_, true, [11], some (.gen (geB w0.heap.size) (fixP u8 (trP (oPt 32 (oBx (oSl 36 (oRd E_impl_Test)))) (y34 ++ ([x41] : List T_impl_Test)) []))), false, fun A => .any⟩ :: []) (by kernel_rfl) (by kernel_rfl) (by kernel_rfl) (Wf.mk' (by kernel_rfl) (UAll.cons ust_raw (UAll.cons ust_raw (UAll.cons ust_raw (UAll.cons ust_raw (UAll.cons ust_qtr (UAll.cons ust_rep (UAll.cons ust_rep (UAll.cons ust_rep (UAll.cons ust_any (UAll.cons ust_raw (UAll.cons ust_any (UAll.nil)))))))))))) (by kernel_rfl) (by kernel_rfl)) hO hA ?_ ?_
            · exact
                OblsR.cons (OblR.plain rfl rfl rfl rfl fun A' R' w' ho hd => by have a0 : R' 5 = u8 := (ho.old 5 rfl).trans h5; exact of_fieldAddr_tr ((tr_root (hO.own 2 _ rfl).2).ptr).ad a0 ff_32_0 Tryd.sizeOf30 (by decide) (padd_zero ((tr_root (hO.own 2 _ rfl).2).ptr).ad)) <|
                OblsR.cons (OblR.plain rfl rfl rfl rfl fun A' R' w' ho hd => by have a0 : R' 42 = u8 := hd 0 _ _ _ rfl rfl rfl rfl rfl; exact of_load_pin ((ho.rdo 2 _ rfl rfl).2.2 _ (.head _)) a0 Tryd.isAgg30 Tryd.sizeOf30) <|
                OblsR.cons (OblR.plain rfl rfl rfl rfl fun A' R' w' ho hd => by have a0 : R' 8 = u29 := (ho.old 8 rfl).trans h8; exact of_move a0) <|
                OblsR.cons (OblR.plain rfl rfl rfl rfl fun A' R' w' ho hd => by have a0 : R' 9 = .int .i64 y33 := (ho.old 9 rfl).trans h9; exact of_move a0) <|
                OblsR.cons (OblR.plain rfl rfl rfl rfl fun A' R' w' ho hd => by have a0 : R' 44 = u29 := hd 0 _ _ _ rfl rfl rfl rfl rfl; have a1 : R' 45 = .int .i64 y33 := hd 1 _ _ _ rfl rfl rfl rfl rfl; have ra0 := (f_u29.stp ho.stp).eq a0; exact of_indexAddr ra0 a1 Tryd.underlying33 Tryd.sizeOf9 e40) <|
                OblsR.cons (OblR.plain rfl rfl rfl rfl fun A' R' w' ho hd => by have a0 : QRep eStr A' w' (R' 46) (gtD x27 y33) := hd 0 _ _ _ rfl rfl rfl rfl rfl; exact (of_load a0.ptr Tryd.isAgg9 Tryd.sizeOf9)) <|
                OblsR.cons (OblR.plain rfl rfl rfl rfl fun A' R' w' ho hd => by have a0 : Rep eStr A' w' (R' 47) (gtD x27 y33) := hd 0 _ _ _ rfl rfl rfl rfl rfl; exact of_call Tryd.call10 (M_spec_l14Test_ok (q42 rfl) ho.av a0)) <|
                OblsR.cons (OblR.plain rfl rfl rfl rfl fun A' R' w' ho hd => by have a0 : Rep E_impl_Test A' w' (R' 48) x41 := hd 0 _ _ _ rfl rfl rfl rfl rfl; exact of_build [_] (E := E_impl_Test) ⟨a0, trivial⟩ Tryd.underlying30 Tryd.sizeOf36 Tryd.zeroValue36 rfl rfl rfl ho.av) <|
                OblsR.cons (OblR.tookS 2 _ _ rfl rfl rfl rfl rfl fun A' R' w' ho hd u S hok hown hav hin hop hds => by have a0 : R' 43 = h38 := hd 0 _ _ _ rfl rfl rfl rfl rfl; have a1 : Rep (eSl E_impl_Test) A' w' (R' 49) ([x41] : List T_impl_Test) := hd 1 _ _ _ rfl rfl rfl rfl rfl; have e0 := (hin _ rfl).1; rw [e0] at hown ⊢; exact took_appendP ((tr_root hown.2).ptr).bx (hown.2.2 _ (.head _)) a0 hav hown.1 (fun k hk => Nat.le_trans (Nat.le_trans hF.size ho.ch.size) hk) (fun k hk => SP.lt _ hown.2 hk) a1 Tryd.underlying30 el_36 e43) <|
                OblsR.cons (OblR.plain rfl rfl rfl rfl fun A' R' w' ho hd => by have a0 : R' 5 = u8 := (ho.old 5 rfl).trans h5; exact of_fieldAddr_tr ((tr_root (hO.own 2 _ rfl).2).ptr).ad a0 ff_32_0 Tryd.sizeOf30 (by decide) (padd_zero ((tr_root (hO.own 2 _ rfl).2).ptr).ad)) <|
                OblsR.cons (OblR.tookS 11 _ _ rfl rfl rfl rfl rfl fun A' R' w' ho hd u S hok hown hav hin hop hds => by have a0 : R' 51 = u8 := hd 0 _ _ _ rfl rfl rfl rfl rfl; exact took_putP hown.2 (hop _ _ rfl rfl rfl rfl).symm a0 hav hown.1 Tryd.sizeOf30 (fun _ _ _ h => h)) <|
                OblsR.nil
            intro done ρ σ A R w hdn hI
            replace h0 : R 0 = v0 := (hI.reg rfl).trans h0
            replace h2 : R 2 = (.pointer (some ⟨b2_0, 0, none⟩)) := (hI.reg rfl).trans h2
            replace h4 : R 4 = u3 := (hI.reg rfl).trans h4
            replace h5 : R 5 = u8 := (hI.reg rfl).trans h5
            replace h6 : R 6 = u13 := (hI.reg rfl).trans h6
            replace h7 : R 7 = .int .i64 y17 := (hI.reg rfl).trans h7
            replace h8 : R 8 = u29 := (hI.reg rfl).trans h8
            replace h9 : R 9 = .int .i64 y33 := (hI.reg rfl).trans h9
            have z44 := hI.inivR 0 rfl
            have z45 := hI.inivR 1 rfl
            obtain ⟨u46, e_u46⟩ : ∃ u, ρ 13 = u := ⟨_, rfl⟩
            have eS_u3 := hI.inisR 1 rfl
            obtain ⟨S47, eS_u8⟩ : ∃ S, σ 13 = S := ⟨_, rfl⟩
            replace f_u13 := f_u13.stp hI.stp
            replace f_u29 := f_u29.stp hI.stp
            replace f_v0 := f_v0.stp hI.stp
            replace hAA := hI.low' hAA hA0 (hO.ge (⟨rfl, ⟨fun _ h => h, ⟨fun _ h => h, trivial⟩⟩⟩))
            replace hF : Fr w0 w := hF.tr hI.ch (hO.ge (⟨rfl, ⟨fun _ h => h, ⟨fun _ h => h, trivial⟩⟩⟩))
            replace hO : IniOK [ob (.pointer (some ⟨b2_0, 0, none⟩)) (.box w0.heap.size 24 E_impl_RuleSet ([] : List T_impl_Rule)), ⟨u3, Sl_u3, trR (geB w0.heap.size) (oPt 24 (oBx (oSl 32 (oRd E_impl_Rule)))) y18 []⟩, ⟨u46, S47, .gen (geB w0.heap.size) (fixP u8 (trP (oPt 32 (oBx (oSl 36 (oRd E_impl_Test)))) (y34 ++ ([x41] : List T_impl_Test)) []))⟩] A w := hI.left hdn [(0, ob (.pointer (some ⟨b2_0, 0, none⟩)) (.box w0.heap.size 24 E_impl_RuleSet ([] : List T_impl_Rule))), (1, ⟨u3, Sl_u3, trR (geB w0.heap.size) (oPt 24 (oBx (oSl 32 (oRd E_impl_Rule)))) y18 []⟩), (13, ⟨u46, S47, .gen (geB w0.heap.size) (fixP u8 (trP (oPt 32 (oBx (oSl 36 (oRd E_impl_Test)))) (y34 ++ ([x41] : List T_impl_Test)) []))⟩)] ⟨rfl, rfl, z44, rfl, rfl, ⟨rfl, rfl, z45, eS_u3, rfl, ⟨rfl, rfl, e_u46, eS_u8, rfl, trivial⟩⟩⟩
            replace hA := hI.avok
            clear hI
            replace hO : IniOK [ob (.pointer (some ⟨b2_0, 0, none⟩)) (.box w0.heap.size 24 E_impl_RuleSet ([] : List T_impl_Rule)), ⟨u3, Sl_u3, trR (geB w0.heap.size) (oPt 24 (oBx (oSl 32 (oRd E_impl_Rule)))) y18 []⟩, ⟨u8, S47, trR (geB w0.heap.size) (oPt 32 (oBx (oSl 36 (oRd E_impl_Test)))) (y34 ++ ([x41] : List T_impl_Test)) []⟩] A w := hO.refix 2 rfl
            obtain ⟨e48, hr⟩ := ck_some hr
            refine HT.text (l := ⟨_, true, .raw (.int .i64 y33)⟩ :: ⟨_, true, .raw (.int .i64 (y33 + (1 : Int)))⟩ :: ⟨_, true, .raw (.int .i64 (y33 + (1 : Int)))⟩ :: []) (tl := []) (by kernel_rfl) (by kernel_rfl) (by kernel_rfl) ?_ ?_
            · exact
                Obls.cons (Obl.plain rfl rfl fun R' w' hw hs hd => by have a0 : R' 9 = .int .i64 y33 := (hs 9 rfl).trans h9; exact of_move a0) <|
                Obls.cons (Obl.plain rfl rfl fun R' w' hw hs hd => by have a0 : R' 40 = .int .i64 y33 := hd 0 _ _ _ rfl rfl rfl rfl rfl; exact of_add a0 rfl e48) <|
                Obls.cons (Obl.plain rfl rfl fun R' w' hw hs hd => by have a0 : R' 41 = .int .i64 (y33 + (1 : Int)) := hd 0 _ _ _ rfl rfl rfl rfl rfl; exact of_assign a0) <|
                Obls.nil
            intro R w hw hs hF'
            replace h0 : R 0 = v0 := (hs 0 rfl).trans h0
            replace h2 : R 2 = (.pointer (some ⟨b2_0, 0, none⟩)) := (hs 2 rfl).trans h2
            replace h4 : R 4 = u3 := (hs 4 rfl).trans h4
            replace h5 : R 5 = u8 := (hs 5 rfl).trans h5
            replace h6 : R 6 = u13 := (hs 6 rfl).trans h6
            replace h7 : R 7 = .int .i64 y17 := (hs 7 rfl).trans h7
            replace h8 : R 8 = u29 := (hs 8 rfl).trans h8
            have h9 : R 9 = .int .i64 (y33 + (1 : Int)) := hF' 2 _ _ rfl rfl rfl
            replace f_u13 := f_u13.fr hw
            replace f_u29 := f_u29.fr hw
            replace f_v0 := f_v0.fr hw
            replace hO := hO.fr hw
            replace hA := hA.fr hw.size
            replace hF := hF.trans hw
            clear hs hF' hw
            refine seqR_nil ?_
            exact Exists.intro k (And.intro (Nat.lt_succ_self k) ⟨_, _, _, S47, hr, hA, hF, hAA, hO, h0, h2, h4, h5, h6, h7, h8, h9, f_u13, f_u29, f_v0⟩)
          · have hr := cnd_f c37 hr
            refine HT.exit ?_
            obtain rfl := Option.some.inj hr
            exact Exists.intro _ ⟨_, Sl_u8, rfl, hA, hF, hAA, hO, h0, h2, h4, h5, h6, h7, f_u13, f_v0⟩
        rintro R w ⟨A, s32, So_u8, es, hA, hF, hAA, hO, h0, h2, h4, h5, h6, h7, f_u13, f_v0⟩
        obtain rfl := es.symm
        refine HT.seq ?_
        replace hO : IniOK [⟨u8, So_u8, trR (geB w0.heap.size) (oPt 32 (oBx (oSl 36 (oRd E_impl_Test)))) s32 []⟩, ob (.pointer (some ⟨b2_0, 0, none⟩)) (.box w0.heap.size 24 E_impl_RuleSet ([] : List T_impl_Rule)), ⟨u3, Sl_u3, trR (geB w0.heap.size) (oPt 24 (oBx (oSl 32 (oRd E_impl_Rule)))) y18 []⟩] A w := hO.sub [(2, ⟨u8, So_u8, trR (geB w0.heap.size) (oPt 32 (oBx (oSl 36 (oRd E_impl_Test)))) s32 []⟩), (0, ob (.pointer (some ⟨b2_0, 0, none⟩)) (.box w0.heap.size 24 E_impl_RuleSet ([] : List T_impl_Rule))), (1, ⟨u3, Sl_u3, trR (geB w0.heap.size) (oPt 24 (oBx (oSl 32 (oRd E_impl_Rule)))) y18 []⟩)] ⟨rfl, rfl, ⟨rfl, rfl, ⟨rfl, rfl, trivial⟩⟩⟩
        obtain ⟨A, S49, hle, hAA, hA, hO⟩ := hO.freezeR hA hAA hA0
        replace f_u13 := f_u13.less hle
        replace f_v0 := f_v0.less hle
        clear hle
        replace hO : IniOK [⟨u8, S49, trR (geB w0.heap.size) (oPt 32 (oRd E_impl_Rule)) s32 []⟩, ob (.pointer (some ⟨b2_0, 0, none⟩)) (.box w0.heap.size 24 E_impl_RuleSet ([] : List T_impl_Rule)), ⟨u3, Sl_u3, trR (geB w0.heap.size) (oPt 24 (oBx (oSl 32 (oRd E_impl_Rule)))) y18 []⟩] A w := hO
        obtain ⟨h50, p_h50⟩ := (((tr_root (hO.own 2 _ rfl).2).ptr).bx).open1 rfl
        replace hO : IniOK [⟨u8, S49, trR (geB w0.heap.size) (oPt 32 (oRd E_impl_Rule)) s32 []⟩, ob (.pointer (some ⟨b2_0, 0, none⟩)) (.box w0.heap.size 24 E_impl_RuleSet ([] : List T_impl_Rule)), ⟨u3, Sl_u3, trR (geB w0.heap.size) (oPt 24 (oBx (oSl 32 (oRd E_impl_Rule)))) y18 [(u3, [h50])]⟩] A w := hO.repin 2 rfl (trP.pin p_h50)
        obtain ⟨e52, hr⟩ := ck_some hr
        refine HT.textR [⟨u8, S49, trR (geB w0.heap.size) (oPt 32 (oRd E_impl_Rule)) s32 []⟩, ob (.pointer (some ⟨b2_0, 0, none⟩)) (.box w0.heap.size 24 E_impl_RuleSet ([] : List T_impl_Rule)), ⟨u3, Sl_u3, trR (geB w0.heap.size) (oPt 24 (oBx (oSl 32 (oRd E_impl_Rule)))) y18 [(u3, [h50])]⟩] (⟨_, true, [], none, true, fun A => .raw u3⟩ :: ⟨_, true, [], none, true, fun A => .raw h50⟩ :: ⟨_, true, [], none, true, fun A => .rep E_impl_Rule A s32⟩ :: ⟨_, true, [], none, true, fun A => .rep (eSl E_impl_Rule) A ([s32] : List T_impl_Rule)⟩ :: ⟨_, true, [2], some (.gen (geB w0.heap.size) (pdP (oSl 32 (oRd E_impl_Rule)) u3 (fun z A w S => (trP (oPt 24 (oBx (oSl 32 (oRd E_impl_Rule)))) z []).P A w S u3) (y18 ++ ([s32] : List T_impl_Rule)))), true, fun A => .any⟩ :: ⟨_, true, [], none, true, fun A => .raw u3⟩ :: ⟨_, true, [7], some (.gen (geB w0.heap.size) (fixP u3 (trP (oPt 24 (oBx (oSl 32 (oRd E_impl_Rule)))) (y18 ++ ([s32] : List T_impl_Rule)) []))), false, fun A => .any⟩ :: []) (by kernel_rfl) (by kernel_rfl) (Wf.mk' (by kernel_rfl) (UAll.cons ust_raw (UAll.cons ust_raw (UAll.cons ust_rep (UAll.cons ust_rep (UAll.cons ust_any (UAll.cons ust_raw (UAll.cons ust_any (UAll.nil)))))))) (by kernel_rfl) (by kernel_rfl)) hO hA ?_ ?_
        · exact
            OblsR.cons (OblR.plain rfl rfl rfl rfl fun A' R' w' ho hd => by have a0 : R' 4 = u3 := (ho.old 4 rfl).trans h4; exact of_fieldAddr_tr ((tr_root (hO.own 2 _ rfl).2).ptr).ad a0 ff_24_0 Tryd.sizeOf22 (by decide) (padd_zero ((tr_root (hO.own 2 _ rfl).2).ptr).ad)) <|
            OblsR.cons (OblR.plain rfl rfl rfl rfl fun A' R' w' ho hd => by have a0 : R' 52 = u3 := hd 0 _ _ _ rfl rfl rfl rfl rfl; exact of_load_pin ((ho.rdo 2 _ rfl rfl).2.2 _ (.head _)) a0 Tryd.isAgg22 Tryd.sizeOf22) <|
            OblsR.cons (OblR.plain rfl rfl rfl rfl fun A' R' w' ho hd => by have a0 : R' 5 = u8 := (ho.old 5 rfl).trans h5; exact (of_load_tr ((tr_root (ho.rdo 0 _ rfl rfl).2).ptr) a0 Tryd.isAgg32 Tryd.sizeOf32)) <|
            OblsR.cons (OblR.plain rfl rfl rfl rfl fun A' R' w' ho hd => by have a0 : Rep E_impl_Rule A' w' (R' 54) s32 := hd 0 _ _ _ rfl rfl rfl rfl rfl; exact of_build [_] (E := E_impl_Rule) ⟨a0, trivial⟩ Tryd.underlying22 Tryd.sizeOf32 Tryd.zeroValue32 rfl rfl rfl ho.av) <|
            OblsR.cons (OblR.tookS 2 _ _ rfl rfl rfl rfl rfl fun A' R' w' ho hd u S hok hown hav hin hop hds => by have a0 : R' 53 = h50 := hd 0 _ _ _ rfl rfl rfl rfl rfl; have a1 : Rep (eSl E_impl_Rule) A' w' (R' 55) ([s32] : List T_impl_Rule) := hd 1 _ _ _ rfl rfl rfl rfl rfl; have e0 := (hin _ rfl).1; rw [e0] at hown ⊢; exact took_appendP ((tr_root hown.2).ptr).bx (hown.2.2 _ (.head _)) a0 hav hown.1 (fun k hk => Nat.le_trans (Nat.le_trans hF.size ho.ch.size) hk) (fun k hk => SP.lt _ hown.2 hk) a1 Tryd.underlying22 el_32 e52) <|
            OblsR.cons (OblR.plain rfl rfl rfl rfl fun A' R' w' ho hd => by have a0 : R' 4 = u3 := (ho.old 4 rfl).trans h4; exact of_fieldAddr_tr ((tr_root (hO.own 2 _ rfl).2).ptr).ad a0 ff_24_0 Tryd.sizeOf22 (by decide) (padd_zero ((tr_root (hO.own 2 _ rfl).2).ptr).ad)) <|
            OblsR.cons (OblR.tookS 7 _ _ rfl rfl rfl rfl rfl fun A' R' w' ho hd u S hok hown hav hin hop hds => by have a0 : R' 57 = u3 := hd 0 _ _ _ rfl rfl rfl rfl rfl; exact took_putP hown.2 (hop _ _ rfl rfl rfl rfl).symm a0 hav hown.1 Tryd.sizeOf22 (fun _ _ _ h => h)) <|
            OblsR.nil
        intro done ρ σ A R w hdn hI
        replace h0 : R 0 = v0 := (hI.reg rfl).trans h0
        replace h2 : R 2 = (.pointer (some ⟨b2_0, 0, none⟩)) := (hI.reg rfl).trans h2
        replace h4 : R 4 = u3 := (hI.reg rfl).trans h4
        replace h5 : R 5 = u8 := (hI.reg rfl).trans h5
        replace h6 : R 6 = u13 := (hI.reg rfl).trans h6
        replace h7 : R 7 = .int .i64 y17 := (hI.reg rfl).trans h7
        have z53 := hI.inivR 0 rfl
        have z54 := hI.inivR 1 rfl
        obtain ⟨u55, e_u55⟩ : ∃ u, ρ 9 = u := ⟨_, rfl⟩
        have eS_u8 := hI.inisR 0 rfl
        obtain ⟨S56, eS_u3⟩ : ∃ S, σ 9 = S := ⟨_, rfl⟩
        replace f_u13 := f_u13.stp hI.stp
        replace f_v0 := f_v0.stp hI.stp
        replace hAA := hI.low' hAA hA0 (hO.ge (⟨fun _ h => h, ⟨rfl, ⟨fun _ h => h, trivial⟩⟩⟩))
        replace hF : Fr w0 w := hF.tr hI.ch (hO.ge (⟨fun _ h => h, ⟨rfl, ⟨fun _ h => h, trivial⟩⟩⟩))
        replace hO : IniOK [⟨u8, S49, trR (geB w0.heap.size) (oPt 32 (oRd E_impl_Rule)) s32 []⟩, ob (.pointer (some ⟨b2_0, 0, none⟩)) (.box w0.heap.size 24 E_impl_RuleSet ([] : List T_impl_Rule)), ⟨u55, S56, .gen (geB w0.heap.size) (fixP u3 (trP (oPt 24 (oBx (oSl 32 (oRd E_impl_Rule)))) (y18 ++ ([s32] : List T_impl_Rule)) []))⟩] A w := hI.left hdn [(0, ⟨u8, S49, trR (geB w0.heap.size) (oPt 32 (oRd E_impl_Rule)) s32 []⟩), (1, ob (.pointer (some ⟨b2_0, 0, none⟩)) (.box w0.heap.size 24 E_impl_RuleSet ([] : List T_impl_Rule))), (9, ⟨u55, S56, .gen (geB w0.heap.size) (fixP u3 (trP (oPt 24 (oBx (oSl 32 (oRd E_impl_Rule)))) (y18 ++ ([s32] : List T_impl_Rule)) []))⟩)] ⟨rfl, rfl, z53, eS_u8, rfl, ⟨rfl, rfl, z54, rfl, rfl, ⟨rfl, rfl, e_u55, eS_u3, rfl, trivial⟩⟩⟩
        replace hA := hI.avok
        clear hI
        replace hO : IniOK [⟨u8, S49, trR (geB w0.heap.size) (oPt 32 (oRd E_impl_Rule)) s32 []⟩, ob (.pointer (some ⟨b2_0, 0, none⟩)) (.box w0.heap.size 24 E_impl_RuleSet ([] : List T_impl_Rule)), ⟨u3, S56, trR (geB w0.heap.size) (oPt 24 (oBx (oSl 32 (oRd E_impl_Rule)))) (y18 ++ ([s32] : List T_impl_Rule)) []⟩] A w := hO.refix 2 rfl
        refine HT.textR [⟨u8, S49, trR (geB w0.heap.size) (oPt 32 (oRd E_impl_Rule)) s32 []⟩, ob (.pointer (some ⟨b2_0, 0, none⟩)) (.box w0.heap.size 24 E_impl_RuleSet ([] : List T_impl_Rule)), ⟨u3, S56, trR (geB w0.heap.size) (oPt 24 (oBx (oSl 32 (oRd E_impl_Rule)))) (y18 ++ ([s32] : List T_impl_Rule)) []⟩] (⟨_, true, [], some (trR (geB w0.heap.size) (oBx (oSl 36 (oRd E_impl_Test))) ([] : List T_impl_Test) []), true, fun A => .any⟩ :: ⟨_, true, [0, 3], some (trR (geB w0.heap.size) (oPt 32 (oBx (oSl 36 (oRd E_impl_Test)))) ([] : List T_impl_Test) []), false, fun A => .any⟩ :: []) (by kernel_rfl) (by kernel_rfl) (Wf.mk' (by kernel_rfl) (UAll.cons ust_any (UAll.cons ust_any (UAll.nil))) (by kernel_rfl) (by kernel_rfl)) hO hA ?_ ?_
        · exact
            OblsR.cons (OblR.madeS _ rfl rfl rfl rfl fun A' R' w' ho hd => by exact made_valT (v := .agg #[.slice none 0 0]) (by simp [execOp, Instr.build, evalR, underlying, Tryd.underlying32, Tryd.zeroValue32, Tryd.sizeOf30, go_sem, Instr.fill]) ⟨⟨_, rfl, own_nil⟩, fun q hq => by cases hq⟩ (fun k hk => Nat.le_trans (Nat.le_trans hF.size ho.ch.size) hk)) <|
            OblsR.cons (OblR.tookM 0 [3] _ rfl rfl rfl rfl fun A' R' w' ho hd ρ σ hok hav hin hop hds hdd => by have a0 : R' 5 = u8 := (ho.old 5 rfl).trans h5; have k1 := hok 0 (.head _) _ rfl; have e0 := (hin 0 (.head _) _ rfl).1; rw [e0] at k1 ⊢; exact took_refill2 rfl k1.2.2 (hok 3 (.tail _ (.head _)) _ rfl).2.2.1 (hop 3 (.tail _ (.head _)) _ _ rfl rfl rfl rfl).symm a0 hav hdd k1.2.1 (hok 3 (.tail _ (.head _)) _ rfl).2.1 Tryd.sizeOf32) <|
            OblsR.nil
        intro done ρ σ A R w hdn hI
        replace h0 : R 0 = v0 := (hI.reg rfl).trans h0
        replace h2 : R 2 = (.pointer (some ⟨b2_0, 0, none⟩)) := (hI.reg rfl).trans h2
        replace h4 : R 4 = u3 := (hI.reg rfl).trans h4
        replace h5 : R 5 = u8 := (hI.reg rfl).trans h5
        replace h6 : R 6 = u13 := (hI.reg rfl).trans h6
        replace h7 : R 7 = .int .i64 y17 := (hI.reg rfl).trans h7
        have z57 := hI.inivR 0 rfl
        have z58 := (hI.opnR hdn 4 1 rfl rfl rfl rfl rfl).trans z57
        have z59 := hI.inivR 1 rfl
        have z60 := hI.inivR 2 rfl
        obtain ⟨S61, eS_u8⟩ : ∃ S, σ 4 = S := ⟨_, rfl⟩
        have eS_u3 := hI.inisR 2 rfl
        replace f_u13 := f_u13.stp hI.stp
        replace f_v0 := f_v0.stp hI.stp
        replace hAA := hI.low' hAA hA0 (hO.ge (⟨fun _ h => h, ⟨rfl, ⟨fun _ h => h, trivial⟩⟩⟩))
        replace hF : Fr w0 w := hF.tr hI.ch (hO.ge (⟨fun _ h => h, ⟨rfl, ⟨fun _ h => h, trivial⟩⟩⟩))
        replace hO : IniOK [⟨u8, S61, trR (geB w0.heap.size) (oPt 32 (oBx (oSl 36 (oRd E_impl_Test)))) ([] : List T_impl_Test) []⟩, ob (.pointer (some ⟨b2_0, 0, none⟩)) (.box w0.heap.size 24 E_impl_RuleSet ([] : List T_impl_Rule)), ⟨u3, S56, trR (geB w0.heap.size) (oPt 24 (oBx (oSl 32 (oRd E_impl_Rule)))) (y18 ++ ([s32] : List T_impl_Rule)) []⟩] A w := hI.left hdn [(4, ⟨u8, S61, trR (geB w0.heap.size) (oPt 32 (oBx (oSl 36 (oRd E_impl_Test)))) ([] : List T_impl_Test) []⟩), (1, ob (.pointer (some ⟨b2_0, 0, none⟩)) (.box w0.heap.size 24 E_impl_RuleSet ([] : List T_impl_Rule))), (2, ⟨u3, S56, trR (geB w0.heap.size) (oPt 24 (oBx (oSl 32 (oRd E_impl_Rule)))) (y18 ++ ([s32] : List T_impl_Rule)) []⟩)] ⟨rfl, rfl, z58, eS_u8, rfl, ⟨rfl, rfl, z59, rfl, rfl, ⟨rfl, rfl, z60, eS_u3, rfl, trivial⟩⟩⟩
        replace hA := hI.avok
        clear hI
        obtain ⟨e62, hr⟩ := ck_some hr
        refine HT.text (l := ⟨_, true, .raw (.int .i64 y17)⟩ :: ⟨_, true, .raw (.int .i64 (y17 + (1 : Int)))⟩ :: ⟨_, true, .raw (.int .i64 (y17 + (1 : Int)))⟩ :: []) (tl := []) (by kernel_rfl) (by kernel_rfl) (by kernel_rfl) ?_ ?_
        · exact
            Obls.cons (Obl.plain rfl rfl fun R' w' hw hs hd => by have a0 : R' 7 = .int .i64 y17 := (hs 7 rfl).trans h7; exact of_move a0) <|
            Obls.cons (Obl.plain rfl rfl fun R' w' hw hs hd => by have a0 : R' 22 = .int .i64 y17 := hd 0 _ _ _ rfl rfl rfl rfl rfl; exact of_add a0 rfl e62) <|
            Obls.cons (Obl.plain rfl rfl fun R' w' hw hs hd => by have a0 : R' 23 = .int .i64 (y17 + (1 : Int)) := hd 0 _ _ _ rfl rfl rfl rfl rfl; exact of_assign a0) <|
            Obls.nil
        intro R w hw hs hF'
        replace h0 : R 0 = v0 := (hs 0 rfl).trans h0
        replace h2 : R 2 = (.pointer (some ⟨b2_0, 0, none⟩)) := (hs 2 rfl).trans h2
        replace h4 : R 4 = u3 := (hs 4 rfl).trans h4
        replace h5 : R 5 = u8 := (hs 5 rfl).trans h5
        replace h6 : R 6 = u13 := (hs 6 rfl).trans h6
        have h7 : R 7 = .int .i64 (y17 + (1 : Int)) := hF' 2 _ _ rfl rfl rfl
        replace f_u13 := f_u13.fr hw
        replace f_v0 := f_v0.fr hw
        replace hO := hO.fr hw
        replace hA := hA.fr hw.size
        replace hF := hF.trans hw
        clear hs hF' hw
        refine seqR_nil ?_
        replace hO : IniOK [ob (.pointer (some ⟨b2_0, 0, none⟩)) (.box w0.heap.size 24 E_impl_RuleSet ([] : List T_impl_Rule)), ⟨u3, S56, trR (geB w0.heap.size) (oPt 24 (oBx (oSl 32 (oRd E_impl_Rule)))) (y18 ++ ([s32] : List T_impl_Rule)) []⟩, ⟨u8, S61, trR (geB w0.heap.size) (oPt 32 (oBx (oSl 36 (oRd E_impl_Test)))) ([] : List T_impl_Test) []⟩] A w := hO.sub [(1, ob (.pointer (some ⟨b2_0, 0, none⟩)) (.box w0.heap.size 24 E_impl_RuleSet ([] : List T_impl_Rule))), (2, ⟨u3, S56, trR (geB w0.heap.size) (oPt 24 (oBx (oSl 32 (oRd E_impl_Rule)))) (y18 ++ ([s32] : List T_impl_Rule)) []⟩), (0, ⟨u8, S61, trR (geB w0.heap.size) (oPt 32 (oBx (oSl 36 (oRd E_impl_Test)))) ([] : List T_impl_Test) []⟩)] ⟨rfl, rfl, ⟨rfl, rfl, ⟨rfl, rfl, trivial⟩⟩⟩
        exact Exists.intro k (And.intro (Nat.lt_succ_self k) ⟨_, _, _, _, S56, S61, hr, hA, hF, hAA, hO, h0, h2, h4, h5, h6, h7, f_u13, f_v0⟩)
    · have hr := cnd_f c22 hr
      refine HT.exit ?_
      obtain rfl := Option.some.inj hr
      replace hO : IniOK [ob (.pointer (some ⟨b2_0, 0, none⟩)) (.box w0.heap.size 24 E_impl_RuleSet ([] : List T_impl_Rule)), ⟨u3, Sl_u3, trR (geB w0.heap.size) (oPt 24 (oBx (oSl 32 (oRd E_impl_Rule)))) y18 []⟩] A w := hO.sub [(0, ob (.pointer (some ⟨b2_0, 0, none⟩)) (.box w0.heap.size 24 E_impl_RuleSet ([] : List T_impl_Rule))), (1, ⟨u3, Sl_u3, trR (geB w0.heap.size) (oPt 24 (oBx (oSl 32 (oRd E_impl_Rule)))) y18 []⟩)] ⟨rfl, rfl, ⟨rfl, rfl, trivial⟩⟩
      exact Exists.intro _ ⟨_, Sl_u3, rfl, hA, hF, hAA, hO, h0, h2, h4, f_v0⟩
  rintro R w ⟨A, s16, So_u3, es, hA, hF, hAA, hO, h0, h2, h4, f_v0⟩
  obtain rfl := es.symm
  refine HT.seq ?_
  refine HT.seq ?_
  obtain ⟨h63, l_h63, p_h63⟩ := ((tr_root (hO.own 1 _ rfl).2).ptr).open
  replace hO : IniOK [ob (.pointer (some ⟨b2_0, 0, none⟩)) (.box w0.heap.size 24 E_impl_RuleSet ([] : List T_impl_Rule)), ⟨u3, So_u3, trR (geB w0.heap.size) (oPt 24 (oBx (oSl 32 (oRd E_impl_Rule)))) s16 [(u3, h63)]⟩] A w := hO.repin 1 rfl (trP.pin p_h63)
  obtain ⟨x65, q66, hr⟩ := cl_some hr
  obtain ⟨x67, q68, hr⟩ := bd_some hr
  refine HT.text (l := ⟨_, true, .raw v0⟩ :: ⟨_, true, .raw (.bool (p0 == ([] : List UInt8)))⟩ :: ⟨_, true, .raw (.bool (p0 == ([] : List UInt8)))⟩ :: ⟨_, (true && ((p0 == ([] : List UInt8)) == false)), .raw (Enc.val E_impl_RuleSet h63)⟩ :: ⟨_, (true && ((p0 == ([] : List UInt8)) == false)), .rep eStr A x65⟩ :: ⟨_, (true && ((p0 == ([] : List UInt8)) == false)), .raw v0⟩ :: ⟨_, (true && ((p0 == ([] : List UInt8)) == false)), .raw (.bool (!(x65 == p0)))⟩ :: ⟨_, true, .raw (.bool x67)⟩ :: []) (tl := []) (by kernel_rfl) (by kernel_rfl) (by kernel_rfl) ?_ ?_
  · exact
      Obls.cons (Obl.plain rfl rfl fun R' w' hw hs hd => by have a0 : R' 0 = v0 := (hs 0 rfl).trans h0; exact of_move a0) <|
      Obls.cons (Obl.plain rfl rfl fun R' w' hw hs hd => by have a0 : R' 59 = v0 := hd 0 _ _ _ rfl rfl rfl rfl rfl; have ra0 := (f_v0.fr hw).eq a0; exact of_seql ra0 ⟨_, rfl, ⟨_, rfl, rfl, by decide⟩⟩) <|
      Obls.cons (Obl.plain rfl rfl fun R' w' hw hs hd => by have a0 : R' 60 = .bool (p0 == ([] : List UInt8)) := hd 0 _ _ _ rfl rfl rfl rfl rfl; exact of_move a0) <|
      Obls.cons (Obl.grd 2 false _ _ _ rfl rfl rfl rfl rfl (by kernel_rfl) fun hg R' w' hw hs hd => by have a0 : R' 4 = u3 := (hs 4 rfl).trans h4; exact of_load_pinS (F := oBx (oSl 32 (oRd E_impl_Rule))) (((hO.fr hw).own 1 _ rfl).2.2 _ (.head _)) l_h63 a0 Tryd.isAgg24 Tryd.sizeOf24) <|
      Obls.cons (Obl.grd 2 false _ _ _ rfl rfl rfl rfl rfl (by kernel_rfl) fun hg R' w' hw hs hd => by have a0 : R' 62 = (Enc.val E_impl_RuleSet h63) := hd 0 _ _ _ rfl rfl rfl rfl hg; have ra0 : Rep E_impl_RuleSet A0 w' (R' 62) _ := (vh_rep (((tr_root ((hO.fr hw).own 1 _ rfl).2).ptr).pinS (((hO.fr hw).own 1 _ rfl).2.2 _ (.head _)) l_h63) hAA (fun k o hk ha => Nat.not_lt.2 (((hO.fr hw).own 1 _ rfl).1 k hk) (hA0 k o ha))).eq a0; exact of_call Tryd.call11 (calls_flat (fun _ _ _ _ _ h => h) (M_spec_FormatRules_ok (q66 hg) (hA00.fr ((Nat.le_trans hF.size hw.size))) ra0))) <|
      Obls.cons (Obl.grd 2 false _ _ _ rfl rfl rfl rfl rfl (by kernel_rfl) fun hg R' w' hw hs hd => by have a0 : R' 0 = v0 := (hs 0 rfl).trans h0; exact of_move a0) <|
      Obls.cons (Obl.grd 2 false _ _ _ rfl rfl rfl rfl rfl (by kernel_rfl) fun hg R' w' hw hs hd => by have a0 : Rep eStr A w' (R' 63) x65 := hd 0 _ _ _ rfl rfl rfl rfl hg; have a1 : R' 64 = v0 := hd 1 _ _ _ rfl rfl rfl rfl hg; have ra1 := (f_v0.fr hw).eq a1; exact of_sneq a0 ra1) <|
      Obls.cons (Obl.plain rfl rfl fun R' w' hw hs hd => by have a0 : R' 61 = .bool (p0 == ([] : List UInt8)) := hd 0 _ _ _ rfl rfl rfl rfl rfl; exact of_pick (p0 == ([] : List UInt8)) a0 (fun hc => by show _ = Value.bool x67; rw [q68, hc]; exact rfl) (fun hc => by have a2 : R' 65 = .bool (!(x65 == p0)) := hd 1 _ _ _ rfl rfl rfl rfl (g_and rfl (beq_of hc)); show _ = Value.bool x67; rw [q68, hc]; exact a2)) <|
      Obls.nil
  intro R w hw hs hF'
  replace h2 : R 2 = (.pointer (some ⟨b2_0, 0, none⟩)) := (hs 2 rfl).trans h2
  replace h4 : R 4 = u3 := (hs 4 rfl).trans h4
  have h66 : R 66 = .bool x67 := hF' 7 _ _ rfl rfl rfl
  replace hO := hO.fr hw
  replace hA := hA.fr hw.size
  replace hF := hF.trans hw
  clear hs hF' hw
  refine seqR_nil ?_
  replace hO : IniOK [ob (.pointer (some ⟨b2_0, 0, none⟩)) (.box w0.heap.size 24 E_impl_RuleSet ([] : List T_impl_Rule)), ⟨u3, So_u3, trR (geB w0.heap.size) (oPt 24 (oBx (oSl 32 (oRd E_impl_Rule)))) s16 []⟩] A w := hO.repin 1 rfl trP.nopin
  refine HT.cond x67 h66 (fun c69 => ?_) (fun c69 => ?_)
  · have hr := cnd_t c69 hr
    refine HT.seq ?_
    refine HT.textR [ob (.pointer (some ⟨b2_0, 0, none⟩)) (.box w0.heap.size 24 E_impl_RuleSet ([] : List T_impl_Rule)), ⟨u3, So_u3, trR (geB w0.heap.size) (oPt 24 (oBx (oSl 32 (oRd E_impl_Rule)))) s16 []⟩] (⟨_, true, [], none, true, fun A => .rep E_impl_RuleSet A ([] : List T_impl_Rule)⟩ :: ⟨_, true, [0], some (.box w0.heap.size 24 E_impl_RuleSet ([] : List T_impl_Rule)), false, fun A => .any⟩ :: ⟨_, true, [], none, true, fun A => .raw (.bool false)⟩ :: []) (by kernel_rfl) (by kernel_rfl) (Wf.mk' (by kernel_rfl) (UAll.cons ust_rep (UAll.cons ust_any (UAll.cons ust_raw (UAll.nil)))) (by kernel_rfl) (by kernel_rfl)) hO hA ?_ ?_
    · exact
        OblsR.cons (OblR.plain rfl rfl rfl rfl fun A' R' w' ho hd => by exact of_build_raw (v := .agg #[.slice none 0 0]) (by simp [execOp, Instr.build, evalR, underlying, Tryd.underlying24, Tryd.zeroValue24, Tryd.sizeOf22, go_sem, Instr.fill]) ⟨_, rfl, rep1_nil⟩) <|
        OblsR.cons (OblR.took 0 _ _ rfl rfl rfl rfl rfl fun A' R' w' ho hd u hok hav hin hop hds => by have a0 : R' 2 = (.pointer (some ⟨b2_0, 0, none⟩)) := (ho.old 2 rfl).trans h2; have a1 : Rep E_impl_RuleSet A' w' (R' 67) ([] : List T_impl_Rule) := hd 0 _ _ _ rfl rfl rfl rfl rfl; exact took_store a1 a0 (hin _ rfl) hok hav (FldS.id _) Tryd.sizeOf24 rfl) <|
        OblsR.cons (OblR.plain rfl rfl rfl rfl fun A' R' w' ho hd => by exact of_assign rfl) <|
        OblsR.nil
    intro done ρ σ A R w hdn hI
    replace h2 : R 2 = (.pointer (some ⟨b2_0, 0, none⟩)) := (hI.reg rfl).trans h2
    have z70 := hI.inivR 0 rfl
    have z71 := (hI.opnR hdn 3 1 rfl rfl rfl rfl rfl).trans z70
    have z72 := hI.inivR 1 rfl
    have eS_u3 := hI.inisR 1 rfl
    have h3 : R 3 = .bool false := hI.fact hdn (i := 2) rfl rfl rfl
    replace hAA := hI.low' hAA hA0 (hO.ge (⟨rfl, ⟨fun _ h => h, trivial⟩⟩))
    replace hF : Fr w0 w := hF.tr hI.ch (hO.ge (⟨rfl, ⟨fun _ h => h, trivial⟩⟩))
    replace hO : IniOK [ob (.pointer (some ⟨b2_0, 0, none⟩)) (.box w0.heap.size 24 E_impl_RuleSet ([] : List T_impl_Rule))] A w := hI.left hdn [(3, ob (.pointer (some ⟨b2_0, 0, none⟩)) (.box w0.heap.size 24 E_impl_RuleSet ([] : List T_impl_Rule)))] ⟨rfl, rfl, z71, rfl, rfl, trivial⟩
    replace hA := hI.avok
    clear hI
    refine HT.ret ?_
    obtain rfl := Option.some.inj hr
    obtain ⟨v_2, e_2, p_2⟩ := res_cell (hO.ok 0 _ rfl).1 h2 Tryd.isAgg24 Tryd.sizeOf24 hAA
    exact ⟨.inr rfl, [v_2, R 3], ⟨e_2, ⟨rfl, trivial⟩⟩, ⟨_, _, rfl, p_2, h3⟩, hF⟩
  · have hr := cnd_f c69 hr
    refine HT.skip ?_
    refine HT.seq ?_
    refine HT.textR [ob (.pointer (some ⟨b2_0, 0, none⟩)) (.box w0.heap.size 24 E_impl_RuleSet ([] : List T_impl_Rule)), ⟨u3, So_u3, trR (geB w0.heap.size) (oPt 24 (oBx (oSl 32 (oRd E_impl_Rule)))) s16 []⟩] (⟨_, true, [1], some (.nul), false, fun A => .rep E_impl_RuleSet A s16⟩ :: ⟨_, true, [0], some (.box w0.heap.size 24 E_impl_RuleSet s16), false, fun A => .any⟩ :: ⟨_, true, [], none, true, fun A => .raw (.bool true)⟩ :: []) (by kernel_rfl) (by kernel_rfl) (Wf.mk' (by kernel_rfl) (UAll.cons ust_rep (UAll.cons ust_any (UAll.cons ust_raw (UAll.nil)))) (by kernel_rfl) (by kernel_rfl)) hO hA ?_ ?_
    · exact
        OblsR.cons (OblR.tookS 1 .nul _ rfl rfl rfl rfl rfl fun A' R' w' ho hd u S hok hown hav hin hop hds => by have a0 : R' 4 = u3 := (ho.old 4 rfl).trans h4; exact frz_loadT hown.2 (a0.trans (hin _ rfl).1.symm) hav Tryd.isAgg24 Tryd.sizeOf24) <|
        OblsR.cons (OblR.took 0 _ _ rfl rfl rfl rfl rfl fun A' R' w' ho hd u hok hav hin hop hds => by have a0 : R' 2 = (.pointer (some ⟨b2_0, 0, none⟩)) := (ho.old 2 rfl).trans h2; have a1 : Rep E_impl_RuleSet A' w' (R' 68) s16 := hd 0 _ _ _ rfl rfl rfl rfl rfl; exact took_store a1 a0 (hin _ rfl) hok hav (FldS.id _) Tryd.sizeOf24 rfl) <|
        OblsR.cons (OblR.plain rfl rfl rfl rfl fun A' R' w' ho hd => by exact of_assign rfl) <|
        OblsR.nil
    intro done ρ σ A R w hdn hI
    replace h2 : R 2 = (.pointer (some ⟨b2_0, 0, none⟩)) := (hI.reg rfl).trans h2
    have z73 := hI.inivR 0 rfl
    have z74 := (hI.opnR hdn 3 1 rfl rfl rfl rfl rfl).trans z73
    have h3 : R 3 = .bool true := hI.fact hdn (i := 2) rfl rfl rfl
    replace hAA := hI.low' hAA hA0 (hO.ge (⟨rfl, ⟨fun _ h => h, trivial⟩⟩))
    replace hF : Fr w0 w := hF.tr hI.ch (hO.ge (⟨rfl, ⟨fun _ h => h, trivial⟩⟩))
    replace hO : IniOK [ob (.pointer (some ⟨b2_0, 0, none⟩)) (.box w0.heap.size 24 E_impl_RuleSet s16)] A w := hI.left hdn [(3, ob (.pointer (some ⟨b2_0, 0, none⟩)) (.box w0.heap.size 24 E_impl_RuleSet s16))] ⟨rfl, rfl, z74, rfl, rfl, trivial⟩
    replace hA := hI.avok
    clear hI
    refine HT.ret ?_
    obtain rfl := Option.some.inj hr
    obtain ⟨v_2, e_2, p_2⟩ := res_cell (hO.ok 0 _ rfl).1 h2 Tryd.isAgg24 Tryd.sizeOf24 hAA
    exact ⟨.inr rfl, [v_2, R 3], ⟨e_2, ⟨rfl, trivial⟩⟩, ⟨_, _, rfl, p_2, h3⟩, hF⟩
def M_impl_FormatInt (fu : Nat) (p0 : Int) : Option (List UInt8) :=
  cl true (M_itoa fu p0) fun x1 =>
  some x1
set_option maxRecDepth 100000 in
set_option maxHeartbeats 4000000 in
theorem M_impl_FormatInt_ok {fu : Nat} {A : Av} {p0 : Int} {r : List UInt8} (hr : M_impl_FormatInt fu p0 = some r) {w : World} {v0 : Value} (hA : AvOK A w) (hG : GTab w) (h0 : v0 = .int .i64 p0) :
    Calls Tryd.prog 38 #[v0] w fun e w' => ∃ v, e = .returned v ∧ (Rep eStr A w' v r ∧ Fr w w') := by
  unfold M_impl_FormatInt at hr
  obtain ⟨w0, hw0⟩ : ∃ w0, w0 = w := ⟨_, rfl⟩
  have hF : Fr w0 w := hw0 ▸ Fr.refl _
  rw [show Fr w = Fr w0 from hw0 ▸ rfl]
  have hG0 : GTab w0 := hw0 ▸ hG
  clear hw0
  refine calls_of_HT2 [.tmp 2] Tryd.func38 Tryd.ntmps38 (by decide) rfl rfl (Nat.le_of_ble_eq_true rfl) ?_
  intro R hR
  replace h0 : R 0 = .int .i64 p0 := (hR 0 _ rfl).trans h0
  clear hR
  refine HT.seq ?_
  refine HT.text (l := ⟨_, true, .rep eStr A ([] : List UInt8)⟩ :: []) (tl := []) (by kernel_rfl) (by kernel_rfl) (by kernel_rfl) ?_ ?_
  · exact
      Obls.cons (Obl.plain rfl rfl fun R' w' hw hs hd => by exact of_assign ⟨_, rfl, ⟨_, rfl, rfl, by decide⟩⟩) <|
      Obls.nil
  intro R w hw hs hF'
  replace h0 : R 0 = .int .i64 p0 := (hs 0 rfl).trans h0
  replace hA := hA.fr hw.size
  replace hF := hF.trans hw
  clear hs hF' hw
  refine seqR_nil ?_
  refine HT.seq ?_
  obtain ⟨x1, q2, hr⟩ := cl_some hr
  refine HT.text (l := ⟨_, true, .raw (.int .i64 p0)⟩ :: ⟨_, true, .rep eStr A x1⟩ :: ⟨_, true, .rep eStr A x1⟩ :: []) (tl := []) (by kernel_rfl) (by kernel_rfl) (by kernel_rfl) ?_ ?_
  · exact
      Obls.cons (Obl.plain rfl rfl fun R' w' hw hs hd => by have a0 : R' 0 = .int .i64 p0 := (hs 0 rfl).trans h0; exact of_move a0) <|
      Obls.cons (Obl.plain rfl rfl fun R' w' hw hs hd => by have a0 : R' 3 = .int .i64 p0 := hd 0 _ _ _ rfl rfl rfl rfl rfl; exact of_call Tryd.call52 (M_itoa_ok (q2 rfl) (hA.fr hw.size) (hG0.fr (hF.trans hw)) a0)) <|
      Obls.cons (Obl.plain rfl rfl fun R' w' hw hs hd => by have a0 : Rep eStr A w' (R' 4) x1 := hd 0 _ _ _ rfl rfl rfl rfl rfl; exact of_assign a0) <|
      Obls.nil
  intro R w hw hs hF'
  obtain ⟨u3, h2, f_u3⟩ : ∃ u, R 2 = u ∧ Rep eStr A w u x1 := ⟨_, rfl, hF' 2 _ _ rfl rfl rfl⟩
  replace hA := hA.fr hw.size
  replace hF := hF.trans hw
  clear hs hF' hw
  refine seqR_nil ?_
  refine HT.ret ?_
  obtain rfl := Option.some.inj hr
  exact ⟨.inr rfl, [R 2], ⟨rfl, trivial⟩, (f_u3.eq h2), hF⟩
def M_impl_within (fu : Nat) (p0 : Int) (p1 : Int) (p2 : Int) : Option Bool :=
  bd ((decide (p1 ≤ p0)) && (decide (p0 ≤ p2))) fun x1 =>
  some x1
set_option maxRecDepth 100000 in
set_option maxHeartbeats 4000000 in
theorem M_impl_within_ok {fu : Nat} {A : Av} {p0 : Int} {p1 : Int} {p2 : Int} {r : Bool} (hr : M_impl_within fu p0 p1 p2 = some r) {w : World} {v0 : Value} {v1 : Value} {v2 : Value} (hA : AvOK A w) (h0 : v0 = .int .i64 p0) (h1 : v1 = .int .i64 p1) (h2 : v2 = .int .i64 p2) :
    Calls Tryd.prog 39 #[v0, v1, v2] w fun e w' => ∃ v, e = .returned v ∧ (v = .bool r ∧ Fr w w') := by
  unfold M_impl_within at hr
  obtain ⟨w0, hw0⟩ : ∃ w0, w0 = w := ⟨_, rfl⟩
  have hF : Fr w0 w := hw0 ▸ Fr.refl _
  rw [show Fr w = Fr w0 from hw0 ▸ rfl]
  clear hw0
  refine calls_of_HT2 [.tmp 6] Tryd.func39 Tryd.ntmps39 (by decide) rfl rfl (Nat.le_of_ble_eq_true rfl) ?_
  intro R hR
  replace h0 : R 0 = .int .i64 p0 := (hR 0 _ rfl).trans h0
  replace h1 : R 1 = .int .i64 p1 := (hR 1 _ rfl).trans h1
  replace h2 : R 2 = .int .i64 p2 := (hR 2 _ rfl).trans h2
  clear hR
  refine HT.seq ?_
  refine HT.text (l := ⟨_, true, .raw (.bool false)⟩ :: []) (tl := []) (by kernel_rfl) (by kernel_rfl) (by kernel_rfl) ?_ ?_
  · exact
      Obls.cons (Obl.plain rfl rfl fun R' w' hw hs hd => by exact of_assign rfl) <|
      Obls.nil
  intro R w hw hs hF'
  replace h0 : R 0 = .int .i64 p0 := (hs 0 rfl).trans h0
  replace h1 : R 1 = .int .i64 p1 := (hs 1 rfl).trans h1
  replace h2 : R 2 = .int .i64 p2 := (hs 2 rfl).trans h2
  replace hA := hA.fr hw.size
  replace hF := hF.trans hw
  clear hs hF' hw
  refine seqR_nil ?_
  refine HT.seq ?_
  obtain ⟨x1, q2, hr⟩ := bd_some hr
  refine HT.text (l := ⟨_, true, .raw (.int .i64 p0)⟩ :: ⟨_, true, .raw (.int .i64 p1)⟩ :: ⟨_, true, .raw (.bool (decide (p1 ≤ p0)))⟩ :: ⟨_, true, .raw (.bool (decide (p1 ≤ p0)))⟩ :: ⟨_, (true && ((decide (p1 ≤ p0)) == true)), .raw (.int .i64 p0)⟩ :: ⟨_, (true && ((decide (p1 ≤ p0)) == true)), .raw (.int .i64 p2)⟩ :: ⟨_, (true && ((decide (p1 ≤ p0)) == true)), .raw (.bool (decide (p0 ≤ p2)))⟩ :: ⟨_, true, .raw (.bool x1)⟩ :: ⟨_, true, .raw (.bool x1)⟩ :: []) (tl := []) (by kernel_rfl) (by kernel_rfl) (by kernel_rfl) ?_ ?_
  · exact
      Obls.cons (Obl.plain rfl rfl fun R' w' hw hs hd => by have a0 : R' 0 = .int .i64 p0 := (hs 0 rfl).trans h0; exact of_move a0) <|
      Obls.cons (Obl.plain rfl rfl fun R' w' hw hs hd => by have a0 : R' 1 = .int .i64 p1 := (hs 1 rfl).trans h1; exact of_move a0) <|
      Obls.cons (Obl.plain rfl rfl fun R' w' hw hs hd => by have a0 : R' 7 = .int .i64 p0 := hd 0 _ _ _ rfl rfl rfl rfl rfl; have a1 : R' 8 = .int .i64 p1 := hd 1 _ _ _ rfl rfl rfl rfl rfl; exact of_geq a0 a1) <|
      Obls.cons (Obl.plain rfl rfl fun R' w' hw hs hd => by have a0 : R' 9 = .bool (decide (p1 ≤ p0)) := hd 0 _ _ _ rfl rfl rfl rfl rfl; exact of_move a0) <|
      Obls.cons (Obl.grd 3 true _ _ _ rfl rfl rfl rfl rfl (by kernel_rfl) fun hg R' w' hw hs hd => by have a0 : R' 0 = .int .i64 p0 := (hs 0 rfl).trans h0; exact of_move a0) <|
      Obls.cons (Obl.grd 3 true _ _ _ rfl rfl rfl rfl rfl (by kernel_rfl) fun hg R' w' hw hs hd => by have a0 : R' 2 = .int .i64 p2 := (hs 2 rfl).trans h2; exact of_move a0) <|
      Obls.cons (Obl.grd 3 true _ _ _ rfl rfl rfl rfl rfl (by kernel_rfl) fun hg R' w' hw hs hd => by have a0 : R' 11 = .int .i64 p0 := hd 0 _ _ _ rfl rfl rfl rfl hg; have a1 : R' 12 = .int .i64 p2 := hd 1 _ _ _ rfl rfl rfl rfl hg; exact of_leq a0 a1) <|
      Obls.cons (Obl.plain rfl rfl fun R' w' hw hs hd => by have a0 : R' 10 = .bool (decide (p1 ≤ p0)) := hd 0 _ _ _ rfl rfl rfl rfl rfl; exact of_pick (decide (p1 ≤ p0)) a0 (fun hc => by have a1 : R' 13 = .bool (decide (p0 ≤ p2)) := hd 1 _ _ _ rfl rfl rfl rfl (g_and rfl (beq_of hc)); show _ = Value.bool x1; rw [q2, hc]; exact a1) (fun hc => by show _ = Value.bool x1; rw [q2, hc]; exact rfl)) <|
      Obls.cons (Obl.plain rfl rfl fun R' w' hw hs hd => by have a0 : R' 14 = .bool x1 := hd 0 _ _ _ rfl rfl rfl rfl rfl; exact of_assign a0) <|
      Obls.nil
  intro R w hw hs hF'
  have h6 : R 6 = .bool x1 := hF' 8 _ _ rfl rfl rfl
  replace hA := hA.fr hw.size
  replace hF := hF.trans hw
  clear hs hF' hw
  refine seqR_nil ?_
  refine HT.ret ?_
  obtain rfl := Option.some.inj hr
  exact ⟨.inr rfl, [R 6], ⟨rfl, trivial⟩, h6, hF⟩
def M_impl_ParseInt (fu : Nat) (p0 : List UInt8) : Option (Int × Bool) :=
  cl true (M_atoi fu p0) fun x1 =>
  cl (true && (x1.2 == false)) (M_impl_FormatInt fu x1.1) fun x4 =>
  bd (x1.2 || (!(x4 == p0))) fun x6 =>
  cl (true && (x6 == false)) (M_impl_within fu x1.1 (-999999999 : Int) (999999999 : Int)) fun x8 =>
  bd (x6 || (!x8)) fun x10 =>
  bif x10 then (
    some ((0 : Int), false)
  ) else (
    some (x1.1, true)
  )
set_option maxRecDepth 100000 in
set_option maxHeartbeats 4000000 in
theorem M_impl_ParseInt_ok {fu : Nat} {A : Av} {p0 : List UInt8} {r : Int × Bool} (hr : M_impl_ParseInt fu p0 = some r) {w : World} {v0 : Value} (hA : AvOK A w) (hG : GTab w) (h0 : Rep eStr A w v0 p0) :
    Calls Tryd.prog 24 #[v0] w fun e w' => ∃ v, e = .returned v ∧ ((∃ a b, v = .tuple #[a, b] ∧ a = .int .i64 r.1 ∧ b = .bool r.2) ∧ Fr w w') := by
  unfold M_impl_ParseInt at hr
  obtain ⟨w0, hw0⟩ : ∃ w0, w0 = w := ⟨_, rfl⟩
  have hF : Fr w0 w := hw0 ▸ Fr.refl _
  rw [show Fr w = Fr w0 from hw0 ▸ rfl]
  have hG0 : GTab w0 := hw0 ▸ hG
  clear hw0
  refine calls_of_HT2 [.tmp 2, .tmp 3] Tryd.func24 Tryd.ntmps24 (by decide) rfl rfl (Nat.le_of_ble_eq_true rfl) ?_
  intro R hR
  have f_v0 := h0
  replace h0 : R 0 = v0 := hR 0 _ rfl
  clear hR
  refine HT.seq ?_
  refine HT.text (l := ⟨_, true, .raw (.int .i64 (0 : Int))⟩ :: ⟨_, true, .raw (.bool false)⟩ :: []) (tl := []) (by kernel_rfl) (by kernel_rfl) (by kernel_rfl) ?_ ?_
  · exact
      Obls.cons (Obl.plain rfl rfl fun R' w' hw hs hd => by exact of_assign rfl) <|
      Obls.cons (Obl.plain rfl rfl fun R' w' hw hs hd => by exact of_assign rfl) <|
      Obls.nil
  intro R w hw hs hF'
  replace h0 : R 0 = v0 := (hs 0 rfl).trans h0
  replace f_v0 := f_v0.fr hw
  replace hA := hA.fr hw.size
  replace hF := hF.trans hw
  clear hs hF' hw
  refine seqR_nil ?_
  refine HT.seq ?_
  obtain ⟨x1, q2, hr⟩ := cl_some hr
  refine HT.text (l := ⟨_, true, .raw v0⟩ :: ⟨_, true, .tup2 (.raw (.int .i64 x1.1)) (.rep eErr A x1.2)⟩ :: ⟨_, true, .tup2 (.raw (.int .i64 x1.1)) (.rep eErr A x1.2)⟩ :: ⟨_, true, .raw (.int .i64 x1.1)⟩ :: ⟨_, true, .rep eErr A x1.2⟩ :: ⟨_, true, .raw (.int .i64 x1.1)⟩ :: ⟨_, true, .rep eErr A x1.2⟩ :: []) (tl := []) (by kernel_rfl) (by kernel_rfl) (by kernel_rfl) ?_ ?_
  · exact
      Obls.cons (Obl.plain rfl rfl fun R' w' hw hs hd => by have a0 : R' 0 = v0 := (hs 0 rfl).trans h0; exact of_move a0) <|
      Obls.cons (Obl.plain rfl rfl fun R' w' hw hs hd => by have a0 : R' 7 = v0 := hd 0 _ _ _ rfl rfl rfl rfl rfl; have ra0 := (f_v0.fr hw).eq a0; exact of_call Tryd.call37 (M_atoi_ok (q2 rfl) (hA.fr hw.size) (hG0.fr (hF.trans hw)) ra0)) <|
      Obls.cons (Obl.plain rfl rfl fun R' w' hw hs hd => by have a0 : Fact.ok (.tup2 (.raw (.int .i64 x1.1)) (.rep eErr A x1.2)) (R' 8) w' := hd 0 _ _ _ rfl rfl rfl rfl rfl; exact of_move a0) <|
      Obls.cons (Obl.plain rfl rfl fun R' w' hw hs hd => by have a0 : Fact.ok (.tup2 (.raw (.int .i64 x1.1)) (.rep eErr A x1.2)) (R' 6) w' := hd 0 _ _ _ rfl rfl rfl rfl rfl; exact of_extract2_0 a0) <|
      Obls.cons (Obl.plain rfl rfl fun R' w' hw hs hd => by have a0 : Fact.ok (.tup2 (.raw (.int .i64 x1.1)) (.rep eErr A x1.2)) (R' 6) w' := hd 0 _ _ _ rfl rfl rfl rfl rfl; exact of_extract2_1 a0) <|
      Obls.cons (Obl.plain rfl rfl fun R' w' hw hs hd => by have a0 : R' 9 = .int .i64 x1.1 := hd 0 _ _ _ rfl rfl rfl rfl rfl; exact of_assign a0) <|
      Obls.cons (Obl.plain rfl rfl fun R' w' hw hs hd => by have a0 : Rep eErr A w' (R' 10) x1.2 := hd 0 _ _ _ rfl rfl rfl rfl rfl; exact of_assign a0) <|
      Obls.nil
  intro R w hw hs hF'
  replace h0 : R 0 = v0 := (hs 0 rfl).trans h0
  have h4 : R 4 = .int .i64 x1.1 := hF' 5 _ _ rfl rfl rfl
  obtain ⟨u3, h5, f_u3⟩ : ∃ u, R 5 = u ∧ Rep eErr A w u x1.2 := ⟨_, rfl, hF' 6 _ _ rfl rfl rfl⟩
  replace f_v0 := f_v0.fr hw
  replace hA := hA.fr hw.size
  replace hF := hF.trans hw
  clear hs hF' hw
  refine seqR_nil ?_
  refine HT.seq ?_
  refine HT.seq ?_
  obtain ⟨x4, q5, hr⟩ := cl_some hr
  obtain ⟨x6, q7, hr⟩ := bd_some hr
  obtain ⟨x8, q9, hr⟩ := cl_some hr
  obtain ⟨x10, q11, hr⟩ := bd_some hr
  refine HT.text (l := ⟨_, true, .raw u3⟩ :: ⟨_, true, .raw (.bool x1.2)⟩ :: ⟨_, true, .raw (.bool x1.2)⟩ :: ⟨_, (true && (x1.2 == false)), .raw (.int .i64 x1.1)⟩ :: ⟨_, (true && (x1.2 == false)), .rep eStr A x4⟩ :: ⟨_, (true && (x1.2 == false)), .raw v0⟩ :: ⟨_, (true && (x1.2 == false)), .raw (.bool (!(x4 == p0)))⟩ :: ⟨_, true, .raw (.bool x6)⟩ :: ⟨_, true, .raw (.bool x6)⟩ :: ⟨_, (true && (x6 == false)), .raw (.int .i64 x1.1)⟩ :: ⟨_, (true && (x6 == false)), .raw (.bool x8)⟩ :: ⟨_, (true && (x6 == false)), .raw (.bool (!x8))⟩ :: ⟨_, true, .raw (.bool x10)⟩ :: []) (tl := []) (by kernel_rfl) (by kernel_rfl) (by kernel_rfl) ?_ ?_
  · exact
      Obls.cons (Obl.plain rfl rfl fun R' w' hw hs hd => by have a0 : R' 5 = u3 := (hs 5 rfl).trans h5; exact of_move a0) <|
      Obls.cons (Obl.plain rfl rfl fun R' w' hw hs hd => by have a0 : R' 11 = u3 := hd 0 _ _ _ rfl rfl rfl rfl rfl; have ra0 := (f_u3.fr hw).eq a0; exact of_err_neq ra0 (by kernel_rfl)) <|
      Obls.cons (Obl.plain rfl rfl fun R' w' hw hs hd => by have a0 : R' 12 = .bool x1.2 := hd 0 _ _ _ rfl rfl rfl rfl rfl; exact of_move a0) <|
      Obls.cons (Obl.grd 2 false _ _ _ rfl rfl rfl rfl rfl (by kernel_rfl) fun hg R' w' hw hs hd => by have a0 : R' 4 = .int .i64 x1.1 := (hs 4 rfl).trans h4; exact of_move a0) <|
      Obls.cons (Obl.grd 2 false _ _ _ rfl rfl rfl rfl rfl (by kernel_rfl) fun hg R' w' hw hs hd => by have a0 : R' 14 = .int .i64 x1.1 := hd 0 _ _ _ rfl rfl rfl rfl hg; exact of_call Tryd.call38 (M_impl_FormatInt_ok (q5 hg) (hA.fr hw.size) (hG0.fr (hF.trans hw)) a0)) <|
      Obls.cons (Obl.grd 2 false _ _ _ rfl rfl rfl rfl rfl (by kernel_rfl) fun hg R' w' hw hs hd => by have a0 : R' 0 = v0 := (hs 0 rfl).trans h0; exact of_move a0) <|
      Obls.cons (Obl.grd 2 false _ _ _ rfl rfl rfl rfl rfl (by kernel_rfl) fun hg R' w' hw hs hd => by have a0 : Rep eStr A w' (R' 15) x4 := hd 0 _ _ _ rfl rfl rfl rfl hg; have a1 : R' 16 = v0 := hd 1 _ _ _ rfl rfl rfl rfl hg; have ra1 := (f_v0.fr hw).eq a1; exact of_sneq a0 ra1) <|
      Obls.cons (Obl.plain rfl rfl fun R' w' hw hs hd => by have a0 : R' 13 = .bool x1.2 := hd 0 _ _ _ rfl rfl rfl rfl rfl; exact of_pick x1.2 a0 (fun hc => by show _ = Value.bool x6; rw [q7, hc]; exact rfl) (fun hc => by have a2 : R' 17 = .bool (!(x4 == p0)) := hd 1 _ _ _ rfl rfl rfl rfl (g_and rfl (beq_of hc)); show _ = Value.bool x6; rw [q7, hc]; exact a2)) <|
      Obls.cons (Obl.plain rfl rfl fun R' w' hw hs hd => by have a0 : R' 18 = .bool x6 := hd 0 _ _ _ rfl rfl rfl rfl rfl; exact of_move a0) <|
      Obls.cons (Obl.grd 8 false _ _ _ rfl rfl rfl rfl rfl (by kernel_rfl) fun hg R' w' hw hs hd => by have a0 : R' 4 = .int .i64 x1.1 := (hs 4 rfl).trans h4; exact of_move a0) <|
      Obls.cons (Obl.grd 8 false _ _ _ rfl rfl rfl rfl rfl (by kernel_rfl) fun hg R' w' hw hs hd => by have a0 : R' 20 = .int .i64 x1.1 := hd 0 _ _ _ rfl rfl rfl rfl hg; exact of_call Tryd.call39 (M_impl_within_ok (q9 hg) (hA.fr hw.size) a0 rfl rfl)) <|
      Obls.cons (Obl.grd 8 false _ _ _ rfl rfl rfl rfl rfl (by kernel_rfl) fun hg R' w' hw hs hd => by have a0 : R' 21 = .bool x8 := hd 0 _ _ _ rfl rfl rfl rfl hg; exact of_not a0) <|
      Obls.cons (Obl.plain rfl rfl fun R' w' hw hs hd => by have a0 : R' 19 = .bool x6 := hd 0 _ _ _ rfl rfl rfl rfl rfl; exact of_pick x6 a0 (fun hc => by show _ = Value.bool x10; rw [q11, hc]; exact rfl) (fun hc => by have a2 : R' 22 = .bool (!x8) := hd 1 _ _ _ rfl rfl rfl rfl (g_and rfl (beq_of hc)); show _ = Value.bool x10; rw [q11, hc]; exact a2)) <|
      Obls.nil
  intro R w hw hs hF'
  replace h4 : R 4 = .int .i64 x1.1 := (hs 4 rfl).trans h4
  have h23 : R 23 = .bool x10 := hF' 12 _ _ rfl rfl rfl
  replace hA := hA.fr hw.size
  replace hF := hF.trans hw
  clear hs hF' hw
  refine seqR_nil ?_
  refine HT.cond x10 h23 (fun c12 => ?_) (fun c12 => ?_)
  · have hr := cnd_t c12 hr
    refine HT.seq ?_
    refine HT.text (l := ⟨_, true, .raw (.int .i64 (0 : Int))⟩ :: ⟨_, true, .raw (.bool false)⟩ :: []) (tl := []) (by kernel_rfl) (by kernel_rfl) (by kernel_rfl) ?_ ?_
    · exact
        Obls.cons (Obl.plain rfl rfl fun R' w' hw hs hd => by exact of_assign rfl) <|
        Obls.cons (Obl.plain rfl rfl fun R' w' hw hs hd => by exact of_assign rfl) <|
        Obls.nil
    intro R w hw hs hF'
    have h2 : R 2 = .int .i64 (0 : Int) := hF' 0 _ _ rfl rfl rfl
    have h3 : R 3 = .bool false := hF' 1 _ _ rfl rfl rfl
    replace hA := hA.fr hw.size
    replace hF := hF.trans hw
    clear hs hF' hw
    refine seqR_nil ?_
    refine HT.ret ?_
    obtain rfl := Option.some.inj hr
    exact ⟨.inr rfl, [R 2, R 3], ⟨rfl, ⟨rfl, trivial⟩⟩, ⟨_, _, rfl, h2, h3⟩, hF⟩
  · have hr := cnd_f c12 hr
    refine HT.skip ?_
    refine HT.seq ?_
    refine HT.text (l := ⟨_, true, .raw (.int .i64 x1.1)⟩ :: ⟨_, true, .raw (.int .i64 x1.1)⟩ :: ⟨_, true, .raw (.bool true)⟩ :: []) (tl := []) (by kernel_rfl) (by kernel_rfl) (by kernel_rfl) ?_ ?_
    · exact
        Obls.cons (Obl.plain rfl rfl fun R' w' hw hs hd => by have a0 : R' 4 = .int .i64 x1.1 := (hs 4 rfl).trans h4; exact of_move a0) <|
        Obls.cons (Obl.plain rfl rfl fun R' w' hw hs hd => by have a0 : R' 24 = .int .i64 x1.1 := hd 0 _ _ _ rfl rfl rfl rfl rfl; exact of_assign a0) <|
        Obls.cons (Obl.plain rfl rfl fun R' w' hw hs hd => by exact of_assign rfl) <|
        Obls.nil
    intro R w hw hs hF'
    have h2 : R 2 = .int .i64 x1.1 := hF' 1 _ _ rfl rfl rfl
    have h3 : R 3 = .bool true := hF' 2 _ _ rfl rfl rfl
    replace hA := hA.fr hw.size
    replace hF := hF.trans hw
    clear hs hF' hw
    refine seqR_nil ?_
    refine HT.ret ?_
    obtain rfl := Option.some.inj hr
    exact ⟨.inr rfl, [R 2, R 3], ⟨rfl, ⟨rfl, trivial⟩⟩, ⟨_, _, rfl, h2, h3⟩, hF⟩
end Go.Proofs.YtpneepiboheldaaDoor
