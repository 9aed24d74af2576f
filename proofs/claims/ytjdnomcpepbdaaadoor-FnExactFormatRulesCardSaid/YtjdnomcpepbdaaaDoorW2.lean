/- Printed by dec.py: plain functions and the proofs that the code computes them. No statement of the seat is proved here. -/
import Derived.Test.YtjdnomcpepbdaaaDoorW1
namespace Go.Proofs.YtjdnomcpepbdaaaDoor
open Go.RowKit
set_option linter.unusedVariables false
set_option maxRecDepth 100000
set_option maxHeartbeats 4000000
def M_spec_FormatRules_L1 (fu : Nat) (p0 : T_impl_RuleSet) (y11 : Int) : Nat → (List UInt8) → Int → Option (List UInt8)
 | 0, _, _ => none
 | k + 1, y19, y20 =>
  ck (inR y11 p0.length) <|
  bif (decide (y20 < ((gtD p0 y11).length : Int))) then (
   ck (inR y11 p0.length) <|
   ck (inR y20 (gtD p0 y11).length) <|
   bif (decide ((0 : Int) < y20)) then (
    ck (lenOK (y19 ++ ([44] : List UInt8)).length) <|
    cl true (M_spec_FeatureName fu ((gtD (gtD p0 y11) y20).1)) fun x31 =>
    ck (lenOK ((y19 ++ ([44] : List UInt8)) ++ x31).length) <|
    bif (gtD (gtD p0 y11) y20).2.2 then (
     ck (lenOK (((y19 ++ ([44] : List UInt8)) ++ x31) ++ ([60] : List UInt8)).length) <|
     cl true (M_spec_FormatInt fu ((gtD (gtD p0 y11) y20).2.1)) fun x38 =>
     ck (lenOK ((((y19 ++ ([44] : List UInt8)) ++ x31) ++ ([60] : List UInt8)) ++ x38).length) <|
     ck (i64B (y20 + (1 : Int))) <|
     M_spec_FormatRules_L1 fu p0 y11 k ((((y19 ++ ([44] : List UInt8)) ++ x31) ++ ([60] : List UInt8)) ++ x38) (y20 + (1 : Int))
    ) else (
     ck (lenOK (((y19 ++ ([44] : List UInt8)) ++ x31) ++ ([62, 61] : List UInt8)).length) <|
     cl true (M_spec_FormatInt fu ((gtD (gtD p0 y11) y20).2.1)) fun x45 =>
     ck (lenOK ((((y19 ++ ([44] : List UInt8)) ++ x31) ++ ([62, 61] : List UInt8)) ++ x45).length) <|
     ck (i64B (y20 + (1 : Int))) <|
     M_spec_FormatRules_L1 fu p0 y11 k ((((y19 ++ ([44] : List UInt8)) ++ x31) ++ ([62, 61] : List UInt8)) ++ x45) (y20 + (1 : Int))
    )
   ) else (
    cl true (M_spec_FeatureName fu ((gtD (gtD p0 y11) y20).1)) fun x50 =>
    ck (lenOK (y19 ++ x50).length) <|
    bif (gtD (gtD p0 y11) y20).2.2 then (
     ck (lenOK ((y19 ++ x50) ++ ([60] : List UInt8)).length) <|
     cl true (M_spec_FormatInt fu ((gtD (gtD p0 y11) y20).2.1)) fun x57 =>
     ck (lenOK (((y19 ++ x50) ++ ([60] : List UInt8)) ++ x57).length) <|
     ck (i64B (y20 + (1 : Int))) <|
     M_spec_FormatRules_L1 fu p0 y11 k (((y19 ++ x50) ++ ([60] : List UInt8)) ++ x57) (y20 + (1 : Int))
    ) else (
     ck (lenOK ((y19 ++ x50) ++ ([62, 61] : List UInt8)).length) <|
     cl true (M_spec_FormatInt fu ((gtD (gtD p0 y11) y20).2.1)) fun x64 =>
     ck (lenOK (((y19 ++ x50) ++ ([62, 61] : List UInt8)) ++ x64).length) <|
     ck (i64B (y20 + (1 : Int))) <|
     M_spec_FormatRules_L1 fu p0 y11 k (((y19 ++ x50) ++ ([62, 61] : List UInt8)) ++ x64) (y20 + (1 : Int))
    )
   )
  ) else (
   some y19
  )
def M_spec_FormatRules_L2 (fu : Nat) (p0 : T_impl_RuleSet) (y11 : Int) : Nat → (List UInt8) → Int → Option (List UInt8)
 | 0, _, _ => none
 | k + 1, y73, y74 =>
  ck (inR y11 p0.length) <|
  bif (decide (y74 < ((gtD p0 y11).length : Int))) then (
   ck (inR y11 p0.length) <|
   ck (inR y74 (gtD p0 y11).length) <|
   bif (decide ((0 : Int) < y74)) then (
    ck (lenOK (y73 ++ ([44] : List UInt8)).length) <|
    cl true (M_spec_FeatureName fu ((gtD (gtD p0 y11) y74).1)) fun x85 =>
    ck (lenOK ((y73 ++ ([44] : List UInt8)) ++ x85).length) <|
    bif (gtD (gtD p0 y11) y74).2.2 then (
     ck (lenOK (((y73 ++ ([44] : List UInt8)) ++ x85) ++ ([60] : List UInt8)).length) <|
     cl true (M_spec_FormatInt fu ((gtD (gtD p0 y11) y74).2.1)) fun x92 =>
     ck (lenOK ((((y73 ++ ([44] : List UInt8)) ++ x85) ++ ([60] : List UInt8)) ++ x92).length) <|
     ck (i64B (y74 + (1 : Int))) <|
     M_spec_FormatRules_L2 fu p0 y11 k ((((y73 ++ ([44] : List UInt8)) ++ x85) ++ ([60] : List UInt8)) ++ x92) (y74 + (1 : Int))
    ) else (
     ck (lenOK (((y73 ++ ([44] : List UInt8)) ++ x85) ++ ([62, 61] : List UInt8)).length) <|
     cl true (M_spec_FormatInt fu ((gtD (gtD p0 y11) y74).2.1)) fun x99 =>
     ck (lenOK ((((y73 ++ ([44] : List UInt8)) ++ x85) ++ ([62, 61] : List UInt8)) ++ x99).length) <|
     ck (i64B (y74 + (1 : Int))) <|
     M_spec_FormatRules_L2 fu p0 y11 k ((((y73 ++ ([44] : List UInt8)) ++ x85) ++ ([62, 61] : List UInt8)) ++ x99) (y74 + (1 : Int))
    )
   ) else (
    cl true (M_spec_FeatureName fu ((gtD (gtD p0 y11) y74).1)) fun x104 =>
    ck (lenOK (y73 ++ x104).length) <|
    bif (gtD (gtD p0 y11) y74).2.2 then (
     ck (lenOK ((y73 ++ x104) ++ ([60] : List UInt8)).length) <|
     cl true (M_spec_FormatInt fu ((gtD (gtD p0 y11) y74).2.1)) fun x111 =>
     ck (lenOK (((y73 ++ x104) ++ ([60] : List UInt8)) ++ x111).length) <|
     ck (i64B (y74 + (1 : Int))) <|
     M_spec_FormatRules_L2 fu p0 y11 k (((y73 ++ x104) ++ ([60] : List UInt8)) ++ x111) (y74 + (1 : Int))
    ) else (
     ck (lenOK ((y73 ++ x104) ++ ([62, 61] : List UInt8)).length) <|
     cl true (M_spec_FormatInt fu ((gtD (gtD p0 y11) y74).2.1)) fun x118 =>
     ck (lenOK (((y73 ++ x104) ++ ([62, 61] : List UInt8)) ++ x118).length) <|
     ck (i64B (y74 + (1 : Int))) <|
     M_spec_FormatRules_L2 fu p0 y11 k (((y73 ++ x104) ++ ([62, 61] : List UInt8)) ++ x118) (y74 + (1 : Int))
    )
   )
  ) else (
   some y73
  )
def M_spec_FormatRules_L0 (fu : Nat) (p0 : T_impl_RuleSet) : Nat → (List UInt8) → Int → Option (List UInt8)
 | 0, _, _ => none
 | k + 1, y10, y11 =>
  bif (decide (y11 < (p0.length : Int))) then (
   bif (decide ((0 : Int) < y11)) then (
    ck (lenOK (y10 ++ ([32, 111, 114, 32] : List UInt8)).length) <|
    cl true (M_spec_FormatRules_L1 fu p0 y11 fu (y10 ++ ([32, 111, 114, 32] : List UInt8)) (0 : Int)) fun s18 =>
    ck (i64B (y11 + (1 : Int))) <|
    M_spec_FormatRules_L0 fu p0 k s18 (y11 + (1 : Int))
   ) else (
    cl true (M_spec_FormatRules_L2 fu p0 y11 fu y10 (0 : Int)) fun s72 =>
    ck (i64B (y11 + (1 : Int))) <|
    M_spec_FormatRules_L0 fu p0 k s72 (y11 + (1 : Int))
   )
  ) else (
   some y10
  )
def M_spec_FormatRules (fu : Nat) (p0 : T_impl_RuleSet) : Option (List UInt8) :=
 cl true (M_spec_IsValidRules fu p0) fun x2 =>
 bif (!x2) then (
  some ([] : List UInt8)
 ) else (
  cl true (M_spec_FormatRules_L0 fu p0 fu ([] : List UInt8) (0 : Int)) fun s9 =>
  some s9
 )
theorem M_spec_FormatRules_ok {fu : Nat} {A0 : Av} {p0 : T_impl_RuleSet} {r : List UInt8} (hr : M_spec_FormatRules fu p0 = some r) {w : World} {v0 : Value} (hA : AvOK A0 w) (h0 : Rep E_impl_RuleSet A0 w v0 p0) :
  Calls Tryd.prog 18 #[v0] w fun e w' => ∃ v, e = .returned v ∧ (Rep eStr A0 w' v r ∧ Fr w w') := by
 unfold M_spec_FormatRules at hr
 obtain ⟨w0, hw0⟩ : ∃ w0, w0 = w := ⟨_, rfl⟩
 have hF : Fr w0 w := hw0 ▸ Fr.refl _
 have hA0 : ∀ b o, A0 b o → b < w0.heap.size := fun b o h => hw0 ▸ hA b o h
 have hA00 : AvOK A0 w0 := hA0
 rw [show Fr w = Fr w0 from hw0 ▸ rfl]
 clear hw0
 obtain ⟨A, hAe⟩ : ∃ A, A = A0 := ⟨_, rfl⟩
 have hAA : ∀ b o, A0 b o → A b o := fun b o h => hAe ▸ h
 replace hA : AvOK A w := hAe ▸ hA
 have hO : IniOK [] A w := IniOK.nil
 refine calls_of_HT2 [.tmp 2] Tryd.func18 Tryd.ntmps18 (by decide) rfl rfl (Nat.le_of_ble_eq_true rfl) ?_
 intro R hR
 have f_v0 : Rep E_impl_RuleSet A w v0 p0 := hAe ▸ h0
 replace h0 : R 0 = v0 := hR 0 _ rfl
 clear hR hAe
 refine HT.seq ?_
 refine HT.textR [] (⟨_, true, [], some (.box w0.heap.size 45 E_impl_RuleSet p0), true, fun A => .any⟩ :: ⟨_, true, [], none, true, fun A => .rep eStr A ([] : List UInt8)⟩ :: []) (by kernel_rfl) (by kernel_rfl) (Wf.mk' (by kernel_rfl) (UAll.cons ust_any (UAll.cons ust_rep (UAll.nil))) (by kernel_rfl) (by kernel_rfl)) hO hA ?_ ?_
 ·exact
   OblsR.cons (OblR.made _ rfl rfl rfl rfl fun A' R' w' ho hd => by have a0 : R' 0 = v0 := (ho.old 0 rfl).trans h0; have ra0 := (f_v0.stp ho.stp).eq a0; exact made_box ra0 (Nat.le_trans hF.size ho.ch.size)) <|
   OblsR.p (fun A' R' w' ho hd => of_assign ⟨_, rfl, ⟨_, rfl, rfl, by decide⟩⟩) <|
   OblsR.nil
 intro done ρ σ A R w hdn hI
 obtain ⟨b1_0, e_b1_0⟩ := hI.boxv hdn 0 rfl rfl
 have h1 : R 1 = (.pointer (some ⟨b1_0, 0, none⟩)) := (hI.opvR hdn 0 0 rfl rfl rfl rfl rfl).symm.trans e_b1_0
 replace hAA := hI.low' hAA hA0 (hO.ge (trivial))
 replace hF : Fr w0 w := hF.tr hI.ch (hO.ge (trivial))
 replace hO : IniOK [ob (.pointer (some ⟨b1_0, 0, none⟩)) (.box w0.heap.size 45 E_impl_RuleSet p0)] A w := hI.left hdn [(0, ob (.pointer (some ⟨b1_0, 0, none⟩)) (.box w0.heap.size 45 E_impl_RuleSet p0))] ⟨rfl, rfl, e_b1_0, rfl, rfl, trivial⟩
 replace hA := hI.avok
 clear hI
 refine HT.seq ?_
 refine HT.seq ?_
 obtain ⟨x2, q3, hr⟩ := cl_some hr
 refine HT.text (l := ⟨_, true, .rep E_impl_RuleSet A p0⟩ :: ⟨_, true, .raw (.bool x2)⟩ :: ⟨_, true, .raw (.bool (!x2))⟩ :: []) (tl := []) (by kernel_rfl) (by kernel_rfl) (by kernel_rfl) ?_ ?_
 ·exact
   Obls.p (fun R' w' hw hs hd => (of_load_box ((hO.fr hw).ok 0 _ rfl).1 ((hs 1 rfl).trans h1) (Fld.id _) rfl Tryd.isAgg45 Tryd.sizeOf45)) <|
   Obls.p (fun R' w' hw hs hd => by have a0 : Rep E_impl_RuleSet A w' (R' 7) p0 := hd.g 0 rfl; exact of_call Tryd.call43 (M_spec_IsValidRules_ok (q3 rfl) (hA.fr hw.size) a0)) <|
   Obls.p (fun R' w' hw hs hd => by have a0 : R' 8 = .bool x2 := hd.g 0 rfl; exact of_not a0) <|
   Obls.nil
 intro R w hw hs hF'
 replace h1 := (hs 1 rfl).trans h1
 have h9 : R 9 = .bool (!x2) := hF' 2 _ _ rfl rfl rfl
 replace hO := hO.fr hw
 replace hA := hA.fr hw.size
 replace hF := hF.trans hw
 clear hs hF' hw
 refine seqR_nil ?_
 refine HT.cond (!x2) h9 (fun c4 => ?_) (fun c4 => ?_)
 ·have hr := cnd_t c4 hr
  refine HT.seq ?_
  refine HT.text (l := ⟨_, true, .rep eStr A ([] : List UInt8)⟩ :: []) (tl := []) (by kernel_rfl) (by kernel_rfl) (by kernel_rfl) ?_ ?_
  ·exact
    Obls.p (fun R' w' hw hs hd => of_assign ⟨_, rfl, ⟨_, rfl, rfl, by decide⟩⟩) <|
    Obls.nil
  intro R w hw hs hF'
  obtain ⟨u5, h2, f_u5⟩ : ∃ u, R 2 = u ∧ Rep eStr A w u ([] : List UInt8) := ⟨_, rfl, hF' 0 _ _ rfl rfl rfl⟩
  replace hO := hO.fr hw
  replace hO : IniOK [] A w := hO.sub [] trivial
  replace hA := hA.fr hw.size
  replace hF := hF.trans hw
  clear hs hF' hw
  refine seqR_nil ?_
  refine HT.ret ?_
  obtain rfl := Option.some.inj hr
  exact ⟨.inr rfl, [R 2], ⟨rfl, trivial⟩, (f_u5.eq h2).down hAA, hF⟩
 ·have hr := cnd_f c4 hr
  refine HT.skip ?_
  refine HT.seq ?_
  refine HT.text (l := ⟨_, true, .rep eStr A ([] : List UInt8)⟩ :: []) (tl := []) (by kernel_rfl) (by kernel_rfl) (by kernel_rfl) ?_ ?_
  ·exact
    Obls.p (fun R' w' hw hs hd => of_assign ⟨_, rfl, ⟨_, rfl, rfl, by decide⟩⟩) <|
    Obls.nil
  intro R w hw hs hF'
  replace h1 := (hs 1 rfl).trans h1
  obtain ⟨u6, h3, f_u6⟩ : ∃ u, R 3 = u ∧ Rep eStr A w u ([] : List UInt8) := ⟨_, rfl, hF' 0 _ _ rfl rfl rfl⟩
  replace hO := hO.fr hw
  replace hA := hA.fr hw.size
  replace hF := hF.trans hw
  clear hs hF' hw
  refine seqR_nil ?_
  refine HT.seq ?_
  refine HT.seq ?_
  refine HT.text (l := ⟨_, true, .raw (.int .i64 (0 : Int))⟩ :: []) (tl := []) (by kernel_rfl) (by kernel_rfl) (by kernel_rfl) ?_ ?_
  ·exact
    Obls.p (fun R' w' hw hs hd => of_assign rfl) <|
    Obls.nil
  intro R w hw hs hF'
  replace h1 := (hs 1 rfl).trans h1
  replace h3 := (hs 3 rfl).trans h3
  have h4 : R 4 = .int .i64 (0 : Int) := hF' 0 _ _ rfl rfl rfl
  replace f_u6 := f_u6.fr hw
  replace hO := hO.fr hw
  replace hA := hA.fr hw.size
  replace hF := hF.trans hw
  clear hs hF' hw
  refine seqR_nil ?_
  obtain ⟨rl7, q8, hr⟩ := cl_some hr
  replace q8 := q8 rfl
  refine HT.cut0 (fun R w => ∃ A : Av, ∃ (s9 : (List UInt8)) (wo_3 : Value), rl7 = s9 ∧ AvOK A w ∧ Fr w0 w ∧ (∀ b o, A0 b o → A b o) ∧ IniOK [] A w ∧ R 3 = wo_3 ∧ Rep eStr A w wo_3 s9) ?_ ?_
  ·refine HT.block ?_
   refine HT.loop (fun k R w => ∃ A : Av, ∃ (y10 : List UInt8) (y11 : Int) (wl_3 : Value), M_spec_FormatRules_L0 fu p0 k y10 y11 = some rl7 ∧ AvOK A w ∧ Fr w0 w ∧ (∀ b o, A0 b o → A b o) ∧ IniOK [ob (.pointer (some ⟨b1_0, 0, none⟩)) (.box w0.heap.size 45 E_impl_RuleSet p0)] A w ∧ R 1 = (.pointer (some ⟨b1_0, 0, none⟩)) ∧ R 3 = wl_3 ∧ R 4 = .int .i64 y11 ∧ Rep eStr A w wl_3 y10) fu ⟨_, _, _, u6, q8, hA, hF, hAA, hO, h1, h3, h4, f_u6⟩ ?_
   have hr0 := hr; clear hr q8
   rintro k R w ⟨A, y10, y11, wl_3, hr, hA, hF, hAA, hO, h1, h3, h4, f_wl_3⟩
   rcases k with _ | k
   ·cases (show none = some _ from hr)
   rw [M_spec_FormatRules_L0] at hr
   refine HT.seq ?_
   refine HT.seq ?_
   refine HT.text (l := ⟨_, true, .raw (.int .i64 y11)⟩ :: ⟨_, true, .raw (.pointer (some ⟨b1_0, 0, none⟩))⟩ :: ⟨_, true, .rep (eSl E_impl_Rule) A p0⟩ :: ⟨_, true, .raw (.int .i64 (p0.length : Int))⟩ :: ⟨_, true, .raw (.bool (decide (y11 < (p0.length : Int))))⟩ :: []) (tl := []) (by kernel_rfl) (by kernel_rfl) (by kernel_rfl) ?_ ?_
   ·exact
     Obls.p (fun R' w' hw hs hd => of_move ((hs 4 rfl).trans h4)) <|
     Obls.p (fun R' w' hw hs hd => of_fieldAddr_raw ((hs 1 rfl).trans h1) ff_45_0 Tryd.sizeOf43 (by decide) rfl) <|
     Obls.p (fun R' w' hw hs hd => by have a0 : R' 11 = (.pointer (some ⟨b1_0, 0, none⟩)) := hd.g 0 rfl; exact (of_load_box ((hO.fr hw).ok 0 _ rfl).1 a0 fl_impl_RuleSet_0 rfl Tryd.isAgg43 Tryd.sizeOf43)) <|
     Obls.p (fun R' w' hw hs hd => by have a0 : Rep (eSl E_impl_Rule) A w' (R' 12) p0 := hd.g 0 rfl; exact of_len_sl (aT := #[]) a0 Tryd.underlying43) <|
     Obls.p (fun R' w' hw hs hd => by have a0 : R' 10 = .int .i64 y11 := hd.g 0 rfl; have a1 : R' 13 = .int .i64 (p0.length : Int) := hd.g 1 rfl; exact of_lss a0 a1) <|
     Obls.nil
   intro R w hw hs hF'
   replace h1 := (hs 1 rfl).trans h1
   replace h3 := (hs 3 rfl).trans h3
   replace h4 := (hs 4 rfl).trans h4
   have h14 : R 14 = .bool (decide (y11 < (p0.length : Int))) := hF' 4 _ _ rfl rfl rfl
   replace f_wl_3 := f_wl_3.fr hw
   replace hO := hO.fr hw
   replace hA := hA.fr hw.size
   replace hF := hF.trans hw
   clear hs hF' hw
   refine seqR_nil ?_
   refine HT.cond (decide (y11 < (p0.length : Int))) h14 (fun c12 => ?_) (fun c12 => ?_)
   ·have hr := cnd_t c12 hr
    refine HT.skip ?_
    refine HT.seq ?_
    refine HT.block ?_
    refine HT.seq ?_
    refine HT.seq ?_
    refine HT.text (l := ⟨_, true, .raw (.int .i64 y11)⟩ :: ⟨_, true, .raw (.bool (decide ((0 : Int) < y11)))⟩ :: []) (tl := []) (by kernel_rfl) (by kernel_rfl) (by kernel_rfl) ?_ ?_
    ·exact
      Obls.p (fun R' w' hw hs hd => of_move ((hs 4 rfl).trans h4)) <|
      Obls.p (fun R' w' hw hs hd => by have a0 : R' 17 = .int .i64 y11 := hd.g 0 rfl; exact of_gtr a0 rfl) <|
      Obls.nil
    intro R w hw hs hF'
    replace h1 := (hs 1 rfl).trans h1
    replace h3 := (hs 3 rfl).trans h3
    replace h4 := (hs 4 rfl).trans h4
    have h18 : R 18 = .bool (decide ((0 : Int) < y11)) := hF' 1 _ _ rfl rfl rfl
    replace f_wl_3 := f_wl_3.fr hw
    replace hO := hO.fr hw
    replace hA := hA.fr hw.size
    replace hF := hF.trans hw
    clear hs hF' hw
    refine seqR_nil ?_
    refine HT.cond (decide ((0 : Int) < y11)) h18 (fun c13 => ?_) (fun c13 => ?_)
    ·have hr := cnd_t c13 hr
     obtain ⟨e14, hr⟩ := ck_some hr
     refine HT.text (l := ⟨_, true, .raw wl_3⟩ :: ⟨_, true, .rep eStr A (y10 ++ ([32, 111, 114, 32] : List UInt8))⟩ :: ⟨_, true, .rep eStr A (y10 ++ ([32, 111, 114, 32] : List UInt8))⟩ :: []) (tl := []) (by kernel_rfl) (by kernel_rfl) (by kernel_rfl) ?_ ?_
     ·exact
       Obls.p (fun R' w' hw hs hd => of_move ((hs 3 rfl).trans h3)) <|
       Obls.p (fun R' w' hw hs hd => by have a0 : R' 19 = wl_3 := hd.g 0 rfl; have ra0 := (f_wl_3.fr hw).eq a0; exact of_cat ra0 ⟨_, rfl, ⟨_, rfl, rfl, by decide⟩⟩ e14) <|
       Obls.p (fun R' w' hw hs hd => by have a0 : Rep eStr A w' (R' 20) (y10 ++ ([32, 111, 114, 32] : List UInt8)) := hd.g 0 rfl; exact of_assign a0) <|
       Obls.nil
     intro R w hw hs hF'
     replace h1 := (hs 1 rfl).trans h1
     replace h4 := (hs 4 rfl).trans h4
     obtain ⟨u15, h3, f_u15⟩ : ∃ u, R 3 = u ∧ Rep eStr A w u (y10 ++ ([32, 111, 114, 32] : List UInt8)) := ⟨_, rfl, hF' 2 _ _ rfl rfl rfl⟩
     replace hO := hO.fr hw
     replace hA := hA.fr hw.size
     replace hF := hF.trans hw
     clear hs hF' hw
     refine seqR_nil ?_
     refine HT.seq ?_
     refine HT.text (l := ⟨_, true, .raw (.int .i64 (0 : Int))⟩ :: []) (tl := []) (by kernel_rfl) (by kernel_rfl) (by kernel_rfl) ?_ ?_
     ·exact
       Obls.p (fun R' w' hw hs hd => of_assign rfl) <|
       Obls.nil
     intro R w hw hs hF'
     replace h1 := (hs 1 rfl).trans h1
     replace h3 := (hs 3 rfl).trans h3
     replace h4 := (hs 4 rfl).trans h4
     have h5 : R 5 = .int .i64 (0 : Int) := hF' 0 _ _ rfl rfl rfl
     replace f_u15 := f_u15.fr hw
     replace hO := hO.fr hw
     replace hA := hA.fr hw.size
     replace hF := hF.trans hw
     clear hs hF' hw
     refine seqR_nil ?_
     obtain ⟨rl16, q17, hr⟩ := cl_some hr
     replace q17 := q17 rfl
     refine HT.cut0 (fun R w => ∃ A : Av, ∃ (s18 : (List UInt8)) (wo_3 : Value), rl16 = s18 ∧ AvOK A w ∧ Fr w0 w ∧ (∀ b o, A0 b o → A b o) ∧ IniOK [ob (.pointer (some ⟨b1_0, 0, none⟩)) (.box w0.heap.size 45 E_impl_RuleSet p0)] A w ∧ R 1 = (.pointer (some ⟨b1_0, 0, none⟩)) ∧ R 3 = wo_3 ∧ R 4 = .int .i64 y11 ∧ Rep eStr A w wo_3 s18) ?_ ?_
     ·refine HT.block ?_
      refine HT.loop (fun k R w => ∃ A : Av, ∃ (y19 : List UInt8) (y20 : Int) (wl_3 : Value), M_spec_FormatRules_L1 fu p0 y11 k y19 y20 = some rl16 ∧ AvOK A w ∧ Fr w0 w ∧ (∀ b o, A0 b o → A b o) ∧ IniOK [ob (.pointer (some ⟨b1_0, 0, none⟩)) (.box w0.heap.size 45 E_impl_RuleSet p0)] A w ∧ R 1 = (.pointer (some ⟨b1_0, 0, none⟩)) ∧ R 3 = wl_3 ∧ R 4 = .int .i64 y11 ∧ R 5 = .int .i64 y20 ∧ Rep eStr A w wl_3 y19) fu ⟨_, _, _, u15, q17, hA, hF, hAA, hO, h1, h3, h4, h5, f_u15⟩ ?_
      have hr0 := hr; clear hr q17
      rintro k R w ⟨A, y19, y20, wl_3, hr, hA, hF, hAA, hO, h1, h3, h4, h5, f_wl_3⟩
      rcases k with _ | k
      ·cases (show none = some _ from hr)
      rw [M_spec_FormatRules_L1] at hr
      refine HT.seq ?_
      refine HT.seq ?_
      obtain ⟨e21, hr⟩ := ck_some hr
      refine HT.text (l := ⟨_, true, .raw (.int .i64 y20)⟩ :: ⟨_, true, .raw (.pointer (some ⟨b1_0, 0, none⟩))⟩ :: ⟨_, true, .rep (eSl E_impl_Rule) A p0⟩ :: ⟨_, true, .raw (.int .i64 y11)⟩ :: ⟨_, true, .qtr E_impl_Rule A (gtD p0 y11)⟩ :: ⟨_, true, .qtr (eSl E_impl_Test) A (gtD p0 y11)⟩ :: ⟨_, true, .rep (eSl E_impl_Test) A (gtD p0 y11)⟩ :: ⟨_, true, .raw (.int .i64 ((gtD p0 y11).length : Int))⟩ :: ⟨_, true, .raw (.bool (decide (y20 < ((gtD p0 y11).length : Int))))⟩ :: []) (tl := []) (by kernel_rfl) (by kernel_rfl) (by kernel_rfl) ?_ ?_
      ·exact
        Obls.p (fun R' w' hw hs hd => of_move ((hs 5 rfl).trans h5)) <|
        Obls.p (fun R' w' hw hs hd => of_fieldAddr_raw ((hs 1 rfl).trans h1) ff_45_0 Tryd.sizeOf43 (by decide) rfl) <|
        Obls.p (fun R' w' hw hs hd => by have a0 : R' 22 = (.pointer (some ⟨b1_0, 0, none⟩)) := hd.g 0 rfl; exact (of_load_box ((hO.fr hw).ok 0 _ rfl).1 a0 fl_impl_RuleSet_0 rfl Tryd.isAgg43 Tryd.sizeOf43)) <|
        Obls.p (fun R' w' hw hs hd => of_move ((hs 4 rfl).trans h4)) <|
        Obls.p (fun R' w' hw hs hd => by have a0 : Rep (eSl E_impl_Rule) A w' (R' 23) p0 := hd.g 0 rfl; have a1 : R' 24 = .int .i64 y11 := hd.g 1 rfl; exact of_indexAddr a0 a1 Tryd.underlying43 Tryd.sizeOf73 e21) <|
        Obls.p (fun R' w' hw hs hd => by have a0 : QRep E_impl_Rule A w' (R' 25) (gtD p0 y11) := hd.g 0 rfl; exact of_fieldAddr_q a0 ff_73_0 Tryd.sizeOf71 (by decide) fl_impl_Rule_0 rfl) <|
        Obls.p (fun R' w' hw hs hd => by have a0 : QRep (eSl E_impl_Test) A w' (R' 26) (gtD p0 y11) := hd.g 0 rfl; exact (of_load a0.ptr Tryd.isAgg71 Tryd.sizeOf71)) <|
        Obls.p (fun R' w' hw hs hd => by have a0 : Rep (eSl E_impl_Test) A w' (R' 27) (gtD p0 y11) := hd.g 0 rfl; exact of_len_sl (aT := #[]) a0 Tryd.underlying71) <|
        Obls.p (fun R' w' hw hs hd => by have a0 : R' 21 = .int .i64 y20 := hd.g 0 rfl; have a1 : R' 28 = .int .i64 ((gtD p0 y11).length : Int) := hd.g 1 rfl; exact of_lss a0 a1) <|
        Obls.nil
      intro R w hw hs hF'
      replace h1 := (hs 1 rfl).trans h1
      replace h3 := (hs 3 rfl).trans h3
      replace h4 := (hs 4 rfl).trans h4
      replace h5 := (hs 5 rfl).trans h5
      have h29 : R 29 = .bool (decide (y20 < ((gtD p0 y11).length : Int))) := hF' 8 _ _ rfl rfl rfl
      replace f_wl_3 := f_wl_3.fr hw
      replace hO := hO.fr hw
      replace hA := hA.fr hw.size
      replace hF := hF.trans hw
      clear hs hF' hw
      refine seqR_nil ?_
      refine HT.cond (decide (y20 < ((gtD p0 y11).length : Int))) h29 (fun c22 => ?_) (fun c22 => ?_)
      ·have hr := cnd_t c22 hr
       refine HT.skip ?_
       refine HT.seq ?_
       refine HT.block ?_
       refine HT.seq ?_
       obtain ⟨e23, hr⟩ := ck_some hr
       obtain ⟨e24, hr⟩ := ck_some hr
       refine HT.textR [ob (.pointer (some ⟨b1_0, 0, none⟩)) (.box w0.heap.size 45 E_impl_RuleSet p0)] (⟨_, true, [], none, true, fun A => .raw (.pointer (some ⟨b1_0, 0, none⟩))⟩ :: ⟨_, true, [], none, true, fun A => .rep (eSl E_impl_Rule) A p0⟩ :: ⟨_, true, [], none, true, fun A => .raw (.int .i64 y11)⟩ :: ⟨_, true, [], none, true, fun A => .qtr E_impl_Rule A (gtD p0 y11)⟩ :: ⟨_, true, [], none, true, fun A => .qtr (eSl E_impl_Test) A (gtD p0 y11)⟩ :: ⟨_, true, [], none, true, fun A => .rep (eSl E_impl_Test) A (gtD p0 y11)⟩ :: ⟨_, true, [], none, true, fun A => .raw (.int .i64 y20)⟩ :: ⟨_, true, [], none, true, fun A => .qtr E_impl_Test A (gtD (gtD p0 y11) y20)⟩ :: ⟨_, true, [], none, true, fun A => .rep E_impl_Test A (gtD (gtD p0 y11) y20)⟩ :: ⟨_, true, [], some (.box w0.heap.size 67 E_impl_Test ((0 : Int), ((0 : Int), false))), true, fun A => .any⟩ :: ⟨_, true, [10], some (.box w0.heap.size 67 E_impl_Test (gtD (gtD p0 y11) y20)), false, fun A => .any⟩ :: []) (by kernel_rfl) (by kernel_rfl) (Wf.mk' (by kernel_rfl) (UAll.cons ust_raw (UAll.cons ust_rep (UAll.cons ust_raw (UAll.cons ust_qtr (UAll.cons ust_qtr (UAll.cons ust_rep (UAll.cons ust_raw (UAll.cons ust_qtr (UAll.cons ust_rep (UAll.cons ust_any (UAll.cons ust_any (UAll.nil)))))))))))) (by kernel_rfl) (by kernel_rfl)) hO hA ?_ ?_
       ·exact
         OblsR.p (fun A' R' w' ho hd => of_fieldAddr_raw ((ho.old 1 rfl).trans h1) ff_45_0 Tryd.sizeOf43 (by decide) rfl) <|
         OblsR.p (fun A' R' w' ho hd => by have a0 : R' 32 = (.pointer (some ⟨b1_0, 0, none⟩)) := hd.g 0 rfl; exact (of_load_box (ho.rd 0 _ rfl rfl) a0 fl_impl_RuleSet_0 rfl Tryd.isAgg43 Tryd.sizeOf43)) <|
         OblsR.p (fun A' R' w' ho hd => of_move ((ho.old 4 rfl).trans h4)) <|
         OblsR.p (fun A' R' w' ho hd => by have a0 : Rep (eSl E_impl_Rule) A' w' (R' 33) p0 := hd.g 0 rfl; have a1 : R' 34 = .int .i64 y11 := hd.g 1 rfl; exact of_indexAddr a0 a1 Tryd.underlying43 Tryd.sizeOf73 e23) <|
         OblsR.p (fun A' R' w' ho hd => by have a0 : QRep E_impl_Rule A' w' (R' 35) (gtD p0 y11) := hd.g 0 rfl; exact of_fieldAddr_q a0 ff_73_0 Tryd.sizeOf71 (by decide) fl_impl_Rule_0 rfl) <|
         OblsR.p (fun A' R' w' ho hd => by have a0 : QRep (eSl E_impl_Test) A' w' (R' 36) (gtD p0 y11) := hd.g 0 rfl; exact (of_load a0.ptr Tryd.isAgg71 Tryd.sizeOf71)) <|
         OblsR.p (fun A' R' w' ho hd => of_move ((ho.old 5 rfl).trans h5)) <|
         OblsR.p (fun A' R' w' ho hd => by have a0 : Rep (eSl E_impl_Test) A' w' (R' 37) (gtD p0 y11) := hd.g 0 rfl; have a1 : R' 38 = .int .i64 y20 := hd.g 1 rfl; exact of_indexAddr a0 a1 Tryd.underlying71 Tryd.sizeOf67 e24) <|
         OblsR.p (fun A' R' w' ho hd => by have a0 : QRep E_impl_Test A' w' (R' 39) (gtD (gtD p0 y11) y20) := hd.g 0 rfl; exact (of_load a0.ptr Tryd.isAgg67 Tryd.sizeOf67)) <|
         OblsR.cons (OblR.made _ rfl rfl rfl rfl fun A' R' w' ho hd => by exact made_alloc Tryd.zeroValue67 (fun A w => rep_pr rep1_int (rep_pr rep1_int rep1_bool)) (Nat.le_trans hF.size ho.ch.size)) <|
         OblsR.cons (OblR.took 10 _ _ rfl rfl rfl rfl rfl fun A' R' w' ho hd u hok hav hin hop hds => by have a1 : Rep E_impl_Test A' w' (R' 40) (gtD (gtD p0 y11) y20) := hd.g 1 rfl; obtain ⟨b, hb, hB', hbx⟩ := hok; have hop' := hop _ _ rfl rfl rfl rfl; exact took_store a1 (hop'.symm.trans hb) hb ⟨b, hb, hB', hbx⟩ hav (FldS.id _) Tryd.sizeOf67 rfl) <|
         OblsR.nil
       intro done ρ σ A R w hdn hI
       replace h1 : R 1 = (.pointer (some ⟨b1_0, 0, none⟩)) := (hI.reg rfl).trans h1
       replace h3 : R 3 = wl_3 := (hI.reg rfl).trans h3
       replace h4 : R 4 = .int .i64 y11 := (hI.reg rfl).trans h4
       replace h5 : R 5 = .int .i64 y20 := (hI.reg rfl).trans h5
       have z25 := hI.inivR 0 rfl
       obtain ⟨b6_25, e_b6_25⟩ := hI.boxv hdn 11 rfl rfl
       have z27 := (hI.opnR hdn 11 10 rfl rfl rfl rfl rfl).symm.trans e_b6_25
       have h6 : R 6 = (.pointer (some ⟨b6_25, 0, none⟩)) := (hI.opvR hdn 10 9 rfl rfl rfl rfl rfl).symm.trans z27
       replace f_wl_3 := f_wl_3.stp hI.stp
       replace hAA := hI.low' hAA hA0 (hO.ge (⟨rfl, trivial⟩))
       replace hF : Fr w0 w := hF.tr hI.ch (hO.ge (⟨rfl, trivial⟩))
       replace hO : IniOK [ob (.pointer (some ⟨b1_0, 0, none⟩)) (.box w0.heap.size 45 E_impl_RuleSet p0), ob (.pointer (some ⟨b6_25, 0, none⟩)) (.box w0.heap.size 67 E_impl_Test (gtD (gtD p0 y11) y20))] A w := hI.left hdn [(0, ob (.pointer (some ⟨b1_0, 0, none⟩)) (.box w0.heap.size 45 E_impl_RuleSet p0)), (11, ob (.pointer (some ⟨b6_25, 0, none⟩)) (.box w0.heap.size 67 E_impl_Test (gtD (gtD p0 y11) y20)))] ⟨rfl, rfl, z25, rfl, rfl, ⟨rfl, rfl, e_b6_25, rfl, rfl, trivial⟩⟩
       replace hA := hI.avok
       clear hI
       refine HT.seq ?_
       refine HT.seq ?_
       refine HT.text (l := ⟨_, true, .raw (.int .i64 y20)⟩ :: ⟨_, true, .raw (.bool (decide ((0 : Int) < y20)))⟩ :: []) (tl := []) (by kernel_rfl) (by kernel_rfl) (by kernel_rfl) ?_ ?_
       ·exact
         Obls.p (fun R' w' hw hs hd => of_move ((hs 5 rfl).trans h5)) <|
         Obls.p (fun R' w' hw hs hd => by have a0 : R' 41 = .int .i64 y20 := hd.g 0 rfl; exact of_gtr a0 rfl) <|
         Obls.nil
       intro R w hw hs hF'
       replace h1 := (hs 1 rfl).trans h1
       replace h3 := (hs 3 rfl).trans h3
       replace h4 := (hs 4 rfl).trans h4
       replace h5 := (hs 5 rfl).trans h5
       replace h6 := (hs 6 rfl).trans h6
       have h42 : R 42 = .bool (decide ((0 : Int) < y20)) := hF' 1 _ _ rfl rfl rfl
       replace f_wl_3 := f_wl_3.fr hw
       replace hO := hO.fr hw
       replace hA := hA.fr hw.size
       replace hF := hF.trans hw
       clear hs hF' hw
       refine seqR_nil ?_
       refine HT.cond (decide ((0 : Int) < y20)) h42 (fun c28 => ?_) (fun c28 => ?_)
       ·have hr := cnd_t c28 hr
        obtain ⟨e29, hr⟩ := ck_some hr
        refine HT.text (l := ⟨_, true, .raw wl_3⟩ :: ⟨_, true, .rep eStr A (y19 ++ ([44] : List UInt8))⟩ :: ⟨_, true, .rep eStr A (y19 ++ ([44] : List UInt8))⟩ :: []) (tl := []) (by kernel_rfl) (by kernel_rfl) (by kernel_rfl) ?_ ?_
        ·exact
          Obls.p (fun R' w' hw hs hd => of_move ((hs 3 rfl).trans h3)) <|
          Obls.p (fun R' w' hw hs hd => by have a0 : R' 43 = wl_3 := hd.g 0 rfl; have ra0 := (f_wl_3.fr hw).eq a0; exact of_cat ra0 ⟨_, rfl, ⟨_, rfl, rfl, by decide⟩⟩ e29) <|
          Obls.p (fun R' w' hw hs hd => by have a0 : Rep eStr A w' (R' 44) (y19 ++ ([44] : List UInt8)) := hd.g 0 rfl; exact of_assign a0) <|
          Obls.nil
        intro R w hw hs hF'
        replace h1 := (hs 1 rfl).trans h1
        replace h4 := (hs 4 rfl).trans h4
        replace h5 := (hs 5 rfl).trans h5
        replace h6 := (hs 6 rfl).trans h6
        obtain ⟨u30, h3, f_u30⟩ : ∃ u, R 3 = u ∧ Rep eStr A w u (y19 ++ ([44] : List UInt8)) := ⟨_, rfl, hF' 2 _ _ rfl rfl rfl⟩
        replace hO := hO.fr hw
        replace hA := hA.fr hw.size
        replace hF := hF.trans hw
        clear hs hF' hw
        refine seqR_nil ?_
        refine HT.seq ?_
        obtain ⟨x31, q32, hr⟩ := cl_some hr
        obtain ⟨e33, hr⟩ := ck_some hr
        refine HT.text (l := ⟨_, true, .raw u30⟩ :: ⟨_, true, .raw (.pointer (some ⟨b6_25, 0, none⟩))⟩ :: ⟨_, true, .raw (.int .i64 ((gtD (gtD p0 y11) y20).1))⟩ :: ⟨_, true, .rep eStr A x31⟩ :: ⟨_, true, .rep eStr A ((y19 ++ ([44] : List UInt8)) ++ x31)⟩ :: ⟨_, true, .rep eStr A ((y19 ++ ([44] : List UInt8)) ++ x31)⟩ :: []) (tl := []) (by kernel_rfl) (by kernel_rfl) (by kernel_rfl) ?_ ?_
        ·exact
          Obls.p (fun R' w' hw hs hd => of_move ((hs 3 rfl).trans h3)) <|
          Obls.p (fun R' w' hw hs hd => of_fieldAddr_raw ((hs 6 rfl).trans h6) ff_67_0 Tryd.sizeOf3 (by decide) rfl) <|
          Obls.p (fun R' w' hw hs hd => by have a0 : R' 46 = (.pointer (some ⟨b6_25, 0, none⟩)) := hd.g 0 rfl; exact OpF.int (of_load_box ((hO.fr hw).ok 1 _ rfl).1 a0 fl_impl_Test_0 rfl Tryd.isAgg3 Tryd.sizeOf3)) <|
          Obls.p (fun R' w' hw hs hd => by have a0 : R' 47 = .int .i64 ((gtD (gtD p0 y11) y20).1) := hd.g 0 rfl; exact of_call Tryd.call31 (M_spec_FeatureName_ok (q32 rfl) (hA.fr hw.size) a0)) <|
          Obls.p (fun R' w' hw hs hd => by have a0 : R' 45 = u30 := hd.g 0 rfl; have ra0 := (f_u30.fr hw).eq a0; have a1 : Rep eStr A w' (R' 48) x31 := hd.g 1 rfl; exact of_cat ra0 a1 e33) <|
          Obls.p (fun R' w' hw hs hd => by have a0 : Rep eStr A w' (R' 49) ((y19 ++ ([44] : List UInt8)) ++ x31) := hd.g 0 rfl; exact of_assign a0) <|
          Obls.nil
        intro R w hw hs hF'
        replace h1 := (hs 1 rfl).trans h1
        replace h4 := (hs 4 rfl).trans h4
        replace h5 := (hs 5 rfl).trans h5
        replace h6 := (hs 6 rfl).trans h6
        obtain ⟨u34, h3, f_u34⟩ : ∃ u, R 3 = u ∧ Rep eStr A w u ((y19 ++ ([44] : List UInt8)) ++ x31) := ⟨_, rfl, hF' 5 _ _ rfl rfl rfl⟩
        replace hO := hO.fr hw
        replace hA := hA.fr hw.size
        replace hF := hF.trans hw
        clear hs hF' hw
        refine seqR_nil ?_
        refine HT.seq ?_
        refine HT.seq ?_
        refine HT.text (l := ⟨_, true, .raw (.pointer (some ⟨b6_25, 2, none⟩))⟩ :: ⟨_, true, .raw (.bool ((gtD (gtD p0 y11) y20).2.2))⟩ :: []) (tl := []) (by kernel_rfl) (by kernel_rfl) (by kernel_rfl) ?_ ?_
        ·exact
          Obls.p (fun R' w' hw hs hd => of_fieldAddr_raw ((hs 6 rfl).trans h6) ff_67_2 Tryd.sizeOf4 (by decide) rfl) <|
          Obls.p (fun R' w' hw hs hd => by have a0 : R' 50 = (.pointer (some ⟨b6_25, 2, none⟩)) := hd.g 0 rfl; exact OpF.bool (of_load_box ((hO.fr hw).ok 1 _ rfl).1 a0 fl_impl_Test_2 rfl Tryd.isAgg4 Tryd.sizeOf4)) <|
          Obls.nil
        intro R w hw hs hF'
        replace h1 := (hs 1 rfl).trans h1
        replace h3 := (hs 3 rfl).trans h3
        replace h4 := (hs 4 rfl).trans h4
        replace h5 := (hs 5 rfl).trans h5
        replace h6 := (hs 6 rfl).trans h6
        have h51 : R 51 = .bool ((gtD (gtD p0 y11) y20).2.2) := hF' 1 _ _ rfl rfl rfl
        replace f_u34 := f_u34.fr hw
        replace hO := hO.fr hw
        replace hA := hA.fr hw.size
        replace hF := hF.trans hw
        clear hs hF' hw
        refine seqR_nil ?_
        refine HT.cond ((gtD (gtD p0 y11) y20).2.2) h51 (fun c35 => ?_) (fun c35 => ?_)
        ·have hr := cnd_t c35 hr
         obtain ⟨e36, hr⟩ := ck_some hr
         refine HT.text (l := ⟨_, true, .raw u34⟩ :: ⟨_, true, .rep eStr A (((y19 ++ ([44] : List UInt8)) ++ x31) ++ ([60] : List UInt8))⟩ :: ⟨_, true, .rep eStr A (((y19 ++ ([44] : List UInt8)) ++ x31) ++ ([60] : List UInt8))⟩ :: []) (tl := []) (by kernel_rfl) (by kernel_rfl) (by kernel_rfl) ?_ ?_
         ·exact
           Obls.p (fun R' w' hw hs hd => of_move ((hs 3 rfl).trans h3)) <|
           Obls.p (fun R' w' hw hs hd => by have a0 : R' 52 = u34 := hd.g 0 rfl; have ra0 := (f_u34.fr hw).eq a0; exact of_cat ra0 ⟨_, rfl, ⟨_, rfl, rfl, by decide⟩⟩ e36) <|
           Obls.p (fun R' w' hw hs hd => by have a0 : Rep eStr A w' (R' 53) (((y19 ++ ([44] : List UInt8)) ++ x31) ++ ([60] : List UInt8)) := hd.g 0 rfl; exact of_assign a0) <|
           Obls.nil
         intro R w hw hs hF'
         replace h1 := (hs 1 rfl).trans h1
         replace h4 := (hs 4 rfl).trans h4
         replace h5 := (hs 5 rfl).trans h5
         replace h6 := (hs 6 rfl).trans h6
         obtain ⟨u37, h3, f_u37⟩ : ∃ u, R 3 = u ∧ Rep eStr A w u (((y19 ++ ([44] : List UInt8)) ++ x31) ++ ([60] : List UInt8)) := ⟨_, rfl, hF' 2 _ _ rfl rfl rfl⟩
         replace hO := hO.fr hw
         replace hA := hA.fr hw.size
         replace hF := hF.trans hw
         clear hs hF' hw
         refine seqR_nil ?_
         obtain ⟨x38, q39, hr⟩ := cl_some hr
         obtain ⟨e40, hr⟩ := ck_some hr
         refine HT.text (l := ⟨_, true, .raw u37⟩ :: ⟨_, true, .raw (.pointer (some ⟨b6_25, 1, none⟩))⟩ :: ⟨_, true, .raw (.int .i64 ((gtD (gtD p0 y11) y20).2.1))⟩ :: ⟨_, true, .rep eStr A x38⟩ :: ⟨_, true, .rep eStr A ((((y19 ++ ([44] : List UInt8)) ++ x31) ++ ([60] : List UInt8)) ++ x38)⟩ :: ⟨_, true, .rep eStr A ((((y19 ++ ([44] : List UInt8)) ++ x31) ++ ([60] : List UInt8)) ++ x38)⟩ :: []) (tl := []) (by kernel_rfl) (by kernel_rfl) (by kernel_rfl) ?_ ?_
         ·exact
           Obls.p (fun R' w' hw hs hd => of_move ((hs 3 rfl).trans h3)) <|
           Obls.p (fun R' w' hw hs hd => of_fieldAddr_raw ((hs 6 rfl).trans h6) ff_67_1 Tryd.sizeOf3 (by decide) rfl) <|
           Obls.p (fun R' w' hw hs hd => by have a0 : R' 57 = (.pointer (some ⟨b6_25, 1, none⟩)) := hd.g 0 rfl; exact OpF.int (of_load_box ((hO.fr hw).ok 1 _ rfl).1 a0 fl_impl_Test_1 rfl Tryd.isAgg3 Tryd.sizeOf3)) <|
           Obls.p (fun R' w' hw hs hd => by have a0 : R' 58 = .int .i64 ((gtD (gtD p0 y11) y20).2.1) := hd.g 0 rfl; exact of_call Tryd.call32 (M_spec_FormatInt_ok (q39 rfl) (hA.fr hw.size) a0)) <|
           Obls.p (fun R' w' hw hs hd => by have a0 : R' 56 = u37 := hd.g 0 rfl; have ra0 := (f_u37.fr hw).eq a0; have a1 : Rep eStr A w' (R' 59) x38 := hd.g 1 rfl; exact of_cat ra0 a1 e40) <|
           Obls.p (fun R' w' hw hs hd => by have a0 : Rep eStr A w' (R' 60) ((((y19 ++ ([44] : List UInt8)) ++ x31) ++ ([60] : List UInt8)) ++ x38) := hd.g 0 rfl; exact of_assign a0) <|
           Obls.nil
         intro R w hw hs hF'
         replace h1 := (hs 1 rfl).trans h1
         replace h4 := (hs 4 rfl).trans h4
         replace h5 := (hs 5 rfl).trans h5
         obtain ⟨u41, h3, f_u41⟩ : ∃ u, R 3 = u ∧ Rep eStr A w u ((((y19 ++ ([44] : List UInt8)) ++ x31) ++ ([60] : List UInt8)) ++ x38) := ⟨_, rfl, hF' 5 _ _ rfl rfl rfl⟩
         replace hO := hO.fr hw
         replace hO : IniOK [ob (.pointer (some ⟨b1_0, 0, none⟩)) (.box w0.heap.size 45 E_impl_RuleSet p0)] A w := hO.sub [(0, ob (.pointer (some ⟨b1_0, 0, none⟩)) (.box w0.heap.size 45 E_impl_RuleSet p0))] ⟨rfl, rfl, trivial⟩
         replace hA := hA.fr hw.size
         replace hF := hF.trans hw
         clear hs hF' hw
         refine seqR_nil ?_
         obtain ⟨e42, hr⟩ := ck_some hr
         refine HT.text (l := ⟨_, true, .raw (.int .i64 y20)⟩ :: ⟨_, true, .raw (.int .i64 (y20 + (1 : Int)))⟩ :: ⟨_, true, .raw (.int .i64 (y20 + (1 : Int)))⟩ :: []) (tl := []) (by kernel_rfl) (by kernel_rfl) (by kernel_rfl) ?_ ?_
         ·exact
           Obls.p (fun R' w' hw hs hd => of_move ((hs 5 rfl).trans h5)) <|
           Obls.p (fun R' w' hw hs hd => by have a0 : R' 30 = .int .i64 y20 := hd.g 0 rfl; exact of_add a0 rfl e42) <|
           Obls.p (fun R' w' hw hs hd => by have a0 : R' 31 = .int .i64 (y20 + (1 : Int)) := hd.g 0 rfl; exact of_assign a0) <|
           Obls.nil
         intro R w hw hs hF'
         replace h1 := (hs 1 rfl).trans h1
         replace h3 := (hs 3 rfl).trans h3
         replace h4 := (hs 4 rfl).trans h4
         have h5 : R 5 = .int .i64 (y20 + (1 : Int)) := hF' 2 _ _ rfl rfl rfl
         replace f_u41 := f_u41.fr hw
         replace hO := hO.fr hw
         replace hA := hA.fr hw.size
         replace hF := hF.trans hw
         clear hs hF' hw
         refine seqR_nil ?_
         exact Exists.intro k (And.intro (Nat.lt_succ_self k) ⟨_, _, _, u41, hr, hA, hF, hAA, hO, h1, h3, h4, h5, f_u41⟩)
        ·have hr := cnd_f c35 hr
         obtain ⟨e43, hr⟩ := ck_some hr
         refine HT.text (l := ⟨_, true, .raw u34⟩ :: ⟨_, true, .rep eStr A (((y19 ++ ([44] : List UInt8)) ++ x31) ++ ([62, 61] : List UInt8))⟩ :: ⟨_, true, .rep eStr A (((y19 ++ ([44] : List UInt8)) ++ x31) ++ ([62, 61] : List UInt8))⟩ :: []) (tl := []) (by kernel_rfl) (by kernel_rfl) (by kernel_rfl) ?_ ?_
         ·exact
           Obls.p (fun R' w' hw hs hd => of_move ((hs 3 rfl).trans h3)) <|
           Obls.p (fun R' w' hw hs hd => by have a0 : R' 54 = u34 := hd.g 0 rfl; have ra0 := (f_u34.fr hw).eq a0; exact of_cat ra0 ⟨_, rfl, ⟨_, rfl, rfl, by decide⟩⟩ e43) <|
           Obls.p (fun R' w' hw hs hd => by have a0 : Rep eStr A w' (R' 55) (((y19 ++ ([44] : List UInt8)) ++ x31) ++ ([62, 61] : List UInt8)) := hd.g 0 rfl; exact of_assign a0) <|
           Obls.nil
         intro R w hw hs hF'
         replace h1 := (hs 1 rfl).trans h1
         replace h4 := (hs 4 rfl).trans h4
         replace h5 := (hs 5 rfl).trans h5
         replace h6 := (hs 6 rfl).trans h6
         obtain ⟨u44, h3, f_u44⟩ : ∃ u, R 3 = u ∧ Rep eStr A w u (((y19 ++ ([44] : List UInt8)) ++ x31) ++ ([62, 61] : List UInt8)) := ⟨_, rfl, hF' 2 _ _ rfl rfl rfl⟩
         replace hO := hO.fr hw
         replace hA := hA.fr hw.size
         replace hF := hF.trans hw
         clear hs hF' hw
         refine seqR_nil ?_
         obtain ⟨x45, q46, hr⟩ := cl_some hr
         obtain ⟨e47, hr⟩ := ck_some hr
         refine HT.text (l := ⟨_, true, .raw u44⟩ :: ⟨_, true, .raw (.pointer (some ⟨b6_25, 1, none⟩))⟩ :: ⟨_, true, .raw (.int .i64 ((gtD (gtD p0 y11) y20).2.1))⟩ :: ⟨_, true, .rep eStr A x45⟩ :: ⟨_, true, .rep eStr A ((((y19 ++ ([44] : List UInt8)) ++ x31) ++ ([62, 61] : List UInt8)) ++ x45)⟩ :: ⟨_, true, .rep eStr A ((((y19 ++ ([44] : List UInt8)) ++ x31) ++ ([62, 61] : List UInt8)) ++ x45)⟩ :: []) (tl := []) (by kernel_rfl) (by kernel_rfl) (by kernel_rfl) ?_ ?_
         ·exact
           Obls.p (fun R' w' hw hs hd => of_move ((hs 3 rfl).trans h3)) <|
           Obls.p (fun R' w' hw hs hd => of_fieldAddr_raw ((hs 6 rfl).trans h6) ff_67_1 Tryd.sizeOf3 (by decide) rfl) <|
           Obls.p (fun R' w' hw hs hd => by have a0 : R' 57 = (.pointer (some ⟨b6_25, 1, none⟩)) := hd.g 0 rfl; exact OpF.int (of_load_box ((hO.fr hw).ok 1 _ rfl).1 a0 fl_impl_Test_1 rfl Tryd.isAgg3 Tryd.sizeOf3)) <|
           Obls.p (fun R' w' hw hs hd => by have a0 : R' 58 = .int .i64 ((gtD (gtD p0 y11) y20).2.1) := hd.g 0 rfl; exact of_call Tryd.call32 (M_spec_FormatInt_ok (q46 rfl) (hA.fr hw.size) a0)) <|
           Obls.p (fun R' w' hw hs hd => by have a0 : R' 56 = u44 := hd.g 0 rfl; have ra0 := (f_u44.fr hw).eq a0; have a1 : Rep eStr A w' (R' 59) x45 := hd.g 1 rfl; exact of_cat ra0 a1 e47) <|
           Obls.p (fun R' w' hw hs hd => by have a0 : Rep eStr A w' (R' 60) ((((y19 ++ ([44] : List UInt8)) ++ x31) ++ ([62, 61] : List UInt8)) ++ x45) := hd.g 0 rfl; exact of_assign a0) <|
           Obls.nil
         intro R w hw hs hF'
         replace h1 := (hs 1 rfl).trans h1
         replace h4 := (hs 4 rfl).trans h4
         replace h5 := (hs 5 rfl).trans h5
         obtain ⟨u48, h3, f_u48⟩ : ∃ u, R 3 = u ∧ Rep eStr A w u ((((y19 ++ ([44] : List UInt8)) ++ x31) ++ ([62, 61] : List UInt8)) ++ x45) := ⟨_, rfl, hF' 5 _ _ rfl rfl rfl⟩
         replace hO := hO.fr hw
         replace hO : IniOK [ob (.pointer (some ⟨b1_0, 0, none⟩)) (.box w0.heap.size 45 E_impl_RuleSet p0)] A w := hO.sub [(0, ob (.pointer (some ⟨b1_0, 0, none⟩)) (.box w0.heap.size 45 E_impl_RuleSet p0))] ⟨rfl, rfl, trivial⟩
         replace hA := hA.fr hw.size
         replace hF := hF.trans hw
         clear hs hF' hw
         refine seqR_nil ?_
         obtain ⟨e49, hr⟩ := ck_some hr
         refine HT.text (l := ⟨_, true, .raw (.int .i64 y20)⟩ :: ⟨_, true, .raw (.int .i64 (y20 + (1 : Int)))⟩ :: ⟨_, true, .raw (.int .i64 (y20 + (1 : Int)))⟩ :: []) (tl := []) (by kernel_rfl) (by kernel_rfl) (by kernel_rfl) ?_ ?_
         ·exact
           Obls.p (fun R' w' hw hs hd => of_move ((hs 5 rfl).trans h5)) <|
           Obls.p (fun R' w' hw hs hd => by have a0 : R' 30 = .int .i64 y20 := hd.g 0 rfl; exact of_add a0 rfl e49) <|
           Obls.p (fun R' w' hw hs hd => by have a0 : R' 31 = .int .i64 (y20 + (1 : Int)) := hd.g 0 rfl; exact of_assign a0) <|
           Obls.nil
         intro R w hw hs hF'
         replace h1 := (hs 1 rfl).trans h1
         replace h3 := (hs 3 rfl).trans h3
         replace h4 := (hs 4 rfl).trans h4
         have h5 : R 5 = .int .i64 (y20 + (1 : Int)) := hF' 2 _ _ rfl rfl rfl
         replace f_u48 := f_u48.fr hw
         replace hO := hO.fr hw
         replace hA := hA.fr hw.size
         replace hF := hF.trans hw
         clear hs hF' hw
         refine seqR_nil ?_
         exact Exists.intro k (And.intro (Nat.lt_succ_self k) ⟨_, _, _, u48, hr, hA, hF, hAA, hO, h1, h3, h4, h5, f_u48⟩)
       ·have hr := cnd_f c28 hr
        refine HT.skip ?_
        refine HT.seq ?_
        obtain ⟨x50, q51, hr⟩ := cl_some hr
        obtain ⟨e52, hr⟩ := ck_some hr
        refine HT.text (l := ⟨_, true, .raw wl_3⟩ :: ⟨_, true, .raw (.pointer (some ⟨b6_25, 0, none⟩))⟩ :: ⟨_, true, .raw (.int .i64 ((gtD (gtD p0 y11) y20).1))⟩ :: ⟨_, true, .rep eStr A x50⟩ :: ⟨_, true, .rep eStr A (y19 ++ x50)⟩ :: ⟨_, true, .rep eStr A (y19 ++ x50)⟩ :: []) (tl := []) (by kernel_rfl) (by kernel_rfl) (by kernel_rfl) ?_ ?_
        ·exact
          Obls.p (fun R' w' hw hs hd => of_move ((hs 3 rfl).trans h3)) <|
          Obls.p (fun R' w' hw hs hd => of_fieldAddr_raw ((hs 6 rfl).trans h6) ff_67_0 Tryd.sizeOf3 (by decide) rfl) <|
          Obls.p (fun R' w' hw hs hd => by have a0 : R' 46 = (.pointer (some ⟨b6_25, 0, none⟩)) := hd.g 0 rfl; exact OpF.int (of_load_box ((hO.fr hw).ok 1 _ rfl).1 a0 fl_impl_Test_0 rfl Tryd.isAgg3 Tryd.sizeOf3)) <|
          Obls.p (fun R' w' hw hs hd => by have a0 : R' 47 = .int .i64 ((gtD (gtD p0 y11) y20).1) := hd.g 0 rfl; exact of_call Tryd.call31 (M_spec_FeatureName_ok (q51 rfl) (hA.fr hw.size) a0)) <|
          Obls.p (fun R' w' hw hs hd => by have a0 : R' 45 = wl_3 := hd.g 0 rfl; have ra0 := (f_wl_3.fr hw).eq a0; have a1 : Rep eStr A w' (R' 48) x50 := hd.g 1 rfl; exact of_cat ra0 a1 e52) <|
          Obls.p (fun R' w' hw hs hd => by have a0 : Rep eStr A w' (R' 49) (y19 ++ x50) := hd.g 0 rfl; exact of_assign a0) <|
          Obls.nil
        intro R w hw hs hF'
        replace h1 := (hs 1 rfl).trans h1
        replace h4 := (hs 4 rfl).trans h4
        replace h5 := (hs 5 rfl).trans h5
        replace h6 := (hs 6 rfl).trans h6
        obtain ⟨u53, h3, f_u53⟩ : ∃ u, R 3 = u ∧ Rep eStr A w u (y19 ++ x50) := ⟨_, rfl, hF' 5 _ _ rfl rfl rfl⟩
        replace hO := hO.fr hw
        replace hA := hA.fr hw.size
        replace hF := hF.trans hw
        clear hs hF' hw
        refine seqR_nil ?_
        refine HT.seq ?_
        refine HT.seq ?_
        refine HT.text (l := ⟨_, true, .raw (.pointer (some ⟨b6_25, 2, none⟩))⟩ :: ⟨_, true, .raw (.bool ((gtD (gtD p0 y11) y20).2.2))⟩ :: []) (tl := []) (by kernel_rfl) (by kernel_rfl) (by kernel_rfl) ?_ ?_
        ·exact
          Obls.p (fun R' w' hw hs hd => of_fieldAddr_raw ((hs 6 rfl).trans h6) ff_67_2 Tryd.sizeOf4 (by decide) rfl) <|
          Obls.p (fun R' w' hw hs hd => by have a0 : R' 50 = (.pointer (some ⟨b6_25, 2, none⟩)) := hd.g 0 rfl; exact OpF.bool (of_load_box ((hO.fr hw).ok 1 _ rfl).1 a0 fl_impl_Test_2 rfl Tryd.isAgg4 Tryd.sizeOf4)) <|
          Obls.nil
        intro R w hw hs hF'
        replace h1 := (hs 1 rfl).trans h1
        replace h3 := (hs 3 rfl).trans h3
        replace h4 := (hs 4 rfl).trans h4
        replace h5 := (hs 5 rfl).trans h5
        replace h6 := (hs 6 rfl).trans h6
        have h51 : R 51 = .bool ((gtD (gtD p0 y11) y20).2.2) := hF' 1 _ _ rfl rfl rfl
        replace f_u53 := f_u53.fr hw
        replace hO := hO.fr hw
        replace hA := hA.fr hw.size
        replace hF := hF.trans hw
        clear hs hF' hw
        refine seqR_nil ?_
        refine HT.cond ((gtD (gtD p0 y11) y20).2.2) h51 (fun c54 => ?_) (fun c54 => ?_)
        ·have hr := cnd_t c54 hr
         obtain ⟨e55, hr⟩ := ck_some hr
         refine HT.text (l := ⟨_, true, .raw u53⟩ :: ⟨_, true, .rep eStr A ((y19 ++ x50) ++ ([60] : List UInt8))⟩ :: ⟨_, true, .rep eStr A ((y19 ++ x50) ++ ([60] : List UInt8))⟩ :: []) (tl := []) (by kernel_rfl) (by kernel_rfl) (by kernel_rfl) ?_ ?_
         ·exact
           Obls.p (fun R' w' hw hs hd => of_move ((hs 3 rfl).trans h3)) <|
           Obls.p (fun R' w' hw hs hd => by have a0 : R' 52 = u53 := hd.g 0 rfl; have ra0 := (f_u53.fr hw).eq a0; exact of_cat ra0 ⟨_, rfl, ⟨_, rfl, rfl, by decide⟩⟩ e55) <|
           Obls.p (fun R' w' hw hs hd => by have a0 : Rep eStr A w' (R' 53) ((y19 ++ x50) ++ ([60] : List UInt8)) := hd.g 0 rfl; exact of_assign a0) <|
           Obls.nil
         intro R w hw hs hF'
         replace h1 := (hs 1 rfl).trans h1
         replace h4 := (hs 4 rfl).trans h4
         replace h5 := (hs 5 rfl).trans h5
         replace h6 := (hs 6 rfl).trans h6
         obtain ⟨u56, h3, f_u56⟩ : ∃ u, R 3 = u ∧ Rep eStr A w u ((y19 ++ x50) ++ ([60] : List UInt8)) := ⟨_, rfl, hF' 2 _ _ rfl rfl rfl⟩
         replace hO := hO.fr hw
         replace hA := hA.fr hw.size
         replace hF := hF.trans hw
         clear hs hF' hw
         refine seqR_nil ?_
         obtain ⟨x57, q58, hr⟩ := cl_some hr
         obtain ⟨e59, hr⟩ := ck_some hr
         refine HT.text (l := ⟨_, true, .raw u56⟩ :: ⟨_, true, .raw (.pointer (some ⟨b6_25, 1, none⟩))⟩ :: ⟨_, true, .raw (.int .i64 ((gtD (gtD p0 y11) y20).2.1))⟩ :: ⟨_, true, .rep eStr A x57⟩ :: ⟨_, true, .rep eStr A (((y19 ++ x50) ++ ([60] : List UInt8)) ++ x57)⟩ :: ⟨_, true, .rep eStr A (((y19 ++ x50) ++ ([60] : List UInt8)) ++ x57)⟩ :: []) (tl := []) (by kernel_rfl) (by kernel_rfl) (by kernel_rfl) ?_ ?_
         ·exact
           Obls.p (fun R' w' hw hs hd => of_move ((hs 3 rfl).trans h3)) <|
           Obls.p (fun R' w' hw hs hd => of_fieldAddr_raw ((hs 6 rfl).trans h6) ff_67_1 Tryd.sizeOf3 (by decide) rfl) <|
           Obls.p (fun R' w' hw hs hd => by have a0 : R' 57 = (.pointer (some ⟨b6_25, 1, none⟩)) := hd.g 0 rfl; exact OpF.int (of_load_box ((hO.fr hw).ok 1 _ rfl).1 a0 fl_impl_Test_1 rfl Tryd.isAgg3 Tryd.sizeOf3)) <|
           Obls.p (fun R' w' hw hs hd => by have a0 : R' 58 = .int .i64 ((gtD (gtD p0 y11) y20).2.1) := hd.g 0 rfl; exact of_call Tryd.call32 (M_spec_FormatInt_ok (q58 rfl) (hA.fr hw.size) a0)) <|
           Obls.p (fun R' w' hw hs hd => by have a0 : R' 56 = u56 := hd.g 0 rfl; have ra0 := (f_u56.fr hw).eq a0; have a1 : Rep eStr A w' (R' 59) x57 := hd.g 1 rfl; exact of_cat ra0 a1 e59) <|
           Obls.p (fun R' w' hw hs hd => by have a0 : Rep eStr A w' (R' 60) (((y19 ++ x50) ++ ([60] : List UInt8)) ++ x57) := hd.g 0 rfl; exact of_assign a0) <|
           Obls.nil
         intro R w hw hs hF'
         replace h1 := (hs 1 rfl).trans h1
         replace h4 := (hs 4 rfl).trans h4
         replace h5 := (hs 5 rfl).trans h5
         obtain ⟨u60, h3, f_u60⟩ : ∃ u, R 3 = u ∧ Rep eStr A w u (((y19 ++ x50) ++ ([60] : List UInt8)) ++ x57) := ⟨_, rfl, hF' 5 _ _ rfl rfl rfl⟩
         replace hO := hO.fr hw
         replace hO : IniOK [ob (.pointer (some ⟨b1_0, 0, none⟩)) (.box w0.heap.size 45 E_impl_RuleSet p0)] A w := hO.sub [(0, ob (.pointer (some ⟨b1_0, 0, none⟩)) (.box w0.heap.size 45 E_impl_RuleSet p0))] ⟨rfl, rfl, trivial⟩
         replace hA := hA.fr hw.size
         replace hF := hF.trans hw
         clear hs hF' hw
         refine seqR_nil ?_
         obtain ⟨e61, hr⟩ := ck_some hr
         refine HT.text (l := ⟨_, true, .raw (.int .i64 y20)⟩ :: ⟨_, true, .raw (.int .i64 (y20 + (1 : Int)))⟩ :: ⟨_, true, .raw (.int .i64 (y20 + (1 : Int)))⟩ :: []) (tl := []) (by kernel_rfl) (by kernel_rfl) (by kernel_rfl) ?_ ?_
         ·exact
           Obls.p (fun R' w' hw hs hd => of_move ((hs 5 rfl).trans h5)) <|
           Obls.p (fun R' w' hw hs hd => by have a0 : R' 30 = .int .i64 y20 := hd.g 0 rfl; exact of_add a0 rfl e61) <|
           Obls.p (fun R' w' hw hs hd => by have a0 : R' 31 = .int .i64 (y20 + (1 : Int)) := hd.g 0 rfl; exact of_assign a0) <|
           Obls.nil
         intro R w hw hs hF'
         replace h1 := (hs 1 rfl).trans h1
         replace h3 := (hs 3 rfl).trans h3
         replace h4 := (hs 4 rfl).trans h4
         have h5 : R 5 = .int .i64 (y20 + (1 : Int)) := hF' 2 _ _ rfl rfl rfl
         replace f_u60 := f_u60.fr hw
         replace hO := hO.fr hw
         replace hA := hA.fr hw.size
         replace hF := hF.trans hw
         clear hs hF' hw
         refine seqR_nil ?_
         exact Exists.intro k (And.intro (Nat.lt_succ_self k) ⟨_, _, _, u60, hr, hA, hF, hAA, hO, h1, h3, h4, h5, f_u60⟩)
        ·have hr := cnd_f c54 hr
         obtain ⟨e62, hr⟩ := ck_some hr
         refine HT.text (l := ⟨_, true, .raw u53⟩ :: ⟨_, true, .rep eStr A ((y19 ++ x50) ++ ([62, 61] : List UInt8))⟩ :: ⟨_, true, .rep eStr A ((y19 ++ x50) ++ ([62, 61] : List UInt8))⟩ :: []) (tl := []) (by kernel_rfl) (by kernel_rfl) (by kernel_rfl) ?_ ?_
         ·exact
           Obls.p (fun R' w' hw hs hd => of_move ((hs 3 rfl).trans h3)) <|
           Obls.p (fun R' w' hw hs hd => by have a0 : R' 54 = u53 := hd.g 0 rfl; have ra0 := (f_u53.fr hw).eq a0; exact of_cat ra0 ⟨_, rfl, ⟨_, rfl, rfl, by decide⟩⟩ e62) <|
           Obls.p (fun R' w' hw hs hd => by have a0 : Rep eStr A w' (R' 55) ((y19 ++ x50) ++ ([62, 61] : List UInt8)) := hd.g 0 rfl; exact of_assign a0) <|
           Obls.nil
         intro R w hw hs hF'
         replace h1 := (hs 1 rfl).trans h1
         replace h4 := (hs 4 rfl).trans h4
         replace h5 := (hs 5 rfl).trans h5
         replace h6 := (hs 6 rfl).trans h6
         obtain ⟨u63, h3, f_u63⟩ : ∃ u, R 3 = u ∧ Rep eStr A w u ((y19 ++ x50) ++ ([62, 61] : List UInt8)) := ⟨_, rfl, hF' 2 _ _ rfl rfl rfl⟩
         replace hO := hO.fr hw
         replace hA := hA.fr hw.size
         replace hF := hF.trans hw
         clear hs hF' hw
         refine seqR_nil ?_
         obtain ⟨x64, q65, hr⟩ := cl_some hr
         obtain ⟨e66, hr⟩ := ck_some hr
         refine HT.text (l := ⟨_, true, .raw u63⟩ :: ⟨_, true, .raw (.pointer (some ⟨b6_25, 1, none⟩))⟩ :: ⟨_, true, .raw (.int .i64 ((gtD (gtD p0 y11) y20).2.1))⟩ :: ⟨_, true, .rep eStr A x64⟩ :: ⟨_, true, .rep eStr A (((y19 ++ x50) ++ ([62, 61] : List UInt8)) ++ x64)⟩ :: ⟨_, true, .rep eStr A (((y19 ++ x50) ++ ([62, 61] : List UInt8)) ++ x64)⟩ :: []) (tl := []) (by kernel_rfl) (by kernel_rfl) (by kernel_rfl) ?_ ?_
         ·exact
           Obls.p (fun R' w' hw hs hd => of_move ((hs 3 rfl).trans h3)) <|
           Obls.p (fun R' w' hw hs hd => of_fieldAddr_raw ((hs 6 rfl).trans h6) ff_67_1 Tryd.sizeOf3 (by decide) rfl) <|
           Obls.p (fun R' w' hw hs hd => by have a0 : R' 57 = (.pointer (some ⟨b6_25, 1, none⟩)) := hd.g 0 rfl; exact OpF.int (of_load_box ((hO.fr hw).ok 1 _ rfl).1 a0 fl_impl_Test_1 rfl Tryd.isAgg3 Tryd.sizeOf3)) <|
           Obls.p (fun R' w' hw hs hd => by have a0 : R' 58 = .int .i64 ((gtD (gtD p0 y11) y20).2.1) := hd.g 0 rfl; exact of_call Tryd.call32 (M_spec_FormatInt_ok (q65 rfl) (hA.fr hw.size) a0)) <|
           Obls.p (fun R' w' hw hs hd => by have a0 : R' 56 = u63 := hd.g 0 rfl; have ra0 := (f_u63.fr hw).eq a0; have a1 : Rep eStr A w' (R' 59) x64 := hd.g 1 rfl; exact of_cat ra0 a1 e66) <|
           Obls.p (fun R' w' hw hs hd => by have a0 : Rep eStr A w' (R' 60) (((y19 ++ x50) ++ ([62, 61] : List UInt8)) ++ x64) := hd.g 0 rfl; exact of_assign a0) <|
           Obls.nil
         intro R w hw hs hF'
         replace h1 := (hs 1 rfl).trans h1
         replace h4 := (hs 4 rfl).trans h4
         replace h5 := (hs 5 rfl).trans h5
         obtain ⟨u67, h3, f_u67⟩ : ∃ u, R 3 = u ∧ Rep eStr A w u (((y19 ++ x50) ++ ([62, 61] : List UInt8)) ++ x64) := ⟨_, rfl, hF' 5 _ _ rfl rfl rfl⟩
         replace hO := hO.fr hw
         replace hO : IniOK [ob (.pointer (some ⟨b1_0, 0, none⟩)) (.box w0.heap.size 45 E_impl_RuleSet p0)] A w := hO.sub [(0, ob (.pointer (some ⟨b1_0, 0, none⟩)) (.box w0.heap.size 45 E_impl_RuleSet p0))] ⟨rfl, rfl, trivial⟩
         replace hA := hA.fr hw.size
         replace hF := hF.trans hw
         clear hs hF' hw
         refine seqR_nil ?_
         obtain ⟨e68, hr⟩ := ck_some hr
         refine HT.text (l := ⟨_, true, .raw (.int .i64 y20)⟩ :: ⟨_, true, .raw (.int .i64 (y20 + (1 : Int)))⟩ :: ⟨_, true, .raw (.int .i64 (y20 + (1 : Int)))⟩ :: []) (tl := []) (by kernel_rfl) (by kernel_rfl) (by kernel_rfl) ?_ ?_
         ·exact
           Obls.p (fun R' w' hw hs hd => of_move ((hs 5 rfl).trans h5)) <|
           Obls.p (fun R' w' hw hs hd => by have a0 : R' 30 = .int .i64 y20 := hd.g 0 rfl; exact of_add a0 rfl e68) <|
           Obls.p (fun R' w' hw hs hd => by have a0 : R' 31 = .int .i64 (y20 + (1 : Int)) := hd.g 0 rfl; exact of_assign a0) <|
           Obls.nil
         intro R w hw hs hF'
         replace h1 := (hs 1 rfl).trans h1
         replace h3 := (hs 3 rfl).trans h3
         replace h4 := (hs 4 rfl).trans h4
         have h5 : R 5 = .int .i64 (y20 + (1 : Int)) := hF' 2 _ _ rfl rfl rfl
         replace f_u67 := f_u67.fr hw
         replace hO := hO.fr hw
         replace hA := hA.fr hw.size
         replace hF := hF.trans hw
         clear hs hF' hw
         refine seqR_nil ?_
         exact Exists.intro k (And.intro (Nat.lt_succ_self k) ⟨_, _, _, u67, hr, hA, hF, hAA, hO, h1, h3, h4, h5, f_u67⟩)
      ·have hr := cnd_f c22 hr
       refine HT.exit ?_
       obtain rfl := Option.some.inj hr
       exact Exists.intro _ ⟨_, wl_3, rfl, hA, hF, hAA, hO, h1, h3, h4, f_wl_3⟩
     rintro R w ⟨A, s18, wo_3, es, hA, hF, hAA, hO, h1, h3, h4, f_wo_3⟩
     obtain rfl := es.symm
     obtain ⟨e69, hr⟩ := ck_some hr
     refine HT.text (l := ⟨_, true, .raw (.int .i64 y11)⟩ :: ⟨_, true, .raw (.int .i64 (y11 + (1 : Int)))⟩ :: ⟨_, true, .raw (.int .i64 (y11 + (1 : Int)))⟩ :: []) (tl := []) (by kernel_rfl) (by kernel_rfl) (by kernel_rfl) ?_ ?_
     ·exact
       Obls.p (fun R' w' hw hs hd => of_move ((hs 4 rfl).trans h4)) <|
       Obls.p (fun R' w' hw hs hd => by have a0 : R' 15 = .int .i64 y11 := hd.g 0 rfl; exact of_add a0 rfl e69) <|
       Obls.p (fun R' w' hw hs hd => by have a0 : R' 16 = .int .i64 (y11 + (1 : Int)) := hd.g 0 rfl; exact of_assign a0) <|
       Obls.nil
     intro R w hw hs hF'
     replace h1 := (hs 1 rfl).trans h1
     replace h3 := (hs 3 rfl).trans h3
     have h4 : R 4 = .int .i64 (y11 + (1 : Int)) := hF' 2 _ _ rfl rfl rfl
     replace f_wo_3 := f_wo_3.fr hw
     replace hO := hO.fr hw
     replace hA := hA.fr hw.size
     replace hF := hF.trans hw
     clear hs hF' hw
     refine seqR_nil ?_
     exact Exists.intro k (And.intro (Nat.lt_succ_self k) ⟨_, _, _, wo_3, hr, hA, hF, hAA, hO, h1, h3, h4, f_wo_3⟩)
    ·have hr := cnd_f c13 hr
     refine HT.skip ?_
     refine HT.seq ?_
     refine HT.text (l := ⟨_, true, .raw (.int .i64 (0 : Int))⟩ :: []) (tl := []) (by kernel_rfl) (by kernel_rfl) (by kernel_rfl) ?_ ?_
     ·exact
       Obls.p (fun R' w' hw hs hd => of_assign rfl) <|
       Obls.nil
     intro R w hw hs hF'
     replace h1 := (hs 1 rfl).trans h1
     replace h3 := (hs 3 rfl).trans h3
     replace h4 := (hs 4 rfl).trans h4
     have h5 : R 5 = .int .i64 (0 : Int) := hF' 0 _ _ rfl rfl rfl
     replace f_wl_3 := f_wl_3.fr hw
     replace hO := hO.fr hw
     replace hA := hA.fr hw.size
     replace hF := hF.trans hw
     clear hs hF' hw
     refine seqR_nil ?_
     obtain ⟨rl70, q71, hr⟩ := cl_some hr
     replace q71 := q71 rfl
     refine HT.cut0 (fun R w => ∃ A : Av, ∃ (s72 : (List UInt8)) (wo_3 : Value), rl70 = s72 ∧ AvOK A w ∧ Fr w0 w ∧ (∀ b o, A0 b o → A b o) ∧ IniOK [ob (.pointer (some ⟨b1_0, 0, none⟩)) (.box w0.heap.size 45 E_impl_RuleSet p0)] A w ∧ R 1 = (.pointer (some ⟨b1_0, 0, none⟩)) ∧ R 3 = wo_3 ∧ R 4 = .int .i64 y11 ∧ Rep eStr A w wo_3 s72) ?_ ?_
     ·refine HT.block ?_
      refine HT.loop (fun k R w => ∃ A : Av, ∃ (y73 : List UInt8) (y74 : Int) (wl_3 : Value), M_spec_FormatRules_L2 fu p0 y11 k y73 y74 = some rl70 ∧ AvOK A w ∧ Fr w0 w ∧ (∀ b o, A0 b o → A b o) ∧ IniOK [ob (.pointer (some ⟨b1_0, 0, none⟩)) (.box w0.heap.size 45 E_impl_RuleSet p0)] A w ∧ R 1 = (.pointer (some ⟨b1_0, 0, none⟩)) ∧ R 3 = wl_3 ∧ R 4 = .int .i64 y11 ∧ R 5 = .int .i64 y74 ∧ Rep eStr A w wl_3 y73) fu ⟨_, _, _, wl_3, q71, hA, hF, hAA, hO, h1, h3, h4, h5, f_wl_3⟩ ?_
      have hr0 := hr; clear hr q71
      rintro k R w ⟨A, y73, y74, wl_3, hr, hA, hF, hAA, hO, h1, h3, h4, h5, f_wl_3⟩
      rcases k with _ | k
      ·cases (show none = some _ from hr)
      rw [M_spec_FormatRules_L2] at hr
      refine HT.seq ?_
      refine HT.seq ?_
      obtain ⟨e75, hr⟩ := ck_some hr
      refine HT.text (l := ⟨_, true, .raw (.int .i64 y74)⟩ :: ⟨_, true, .raw (.pointer (some ⟨b1_0, 0, none⟩))⟩ :: ⟨_, true, .rep (eSl E_impl_Rule) A p0⟩ :: ⟨_, true, .raw (.int .i64 y11)⟩ :: ⟨_, true, .qtr E_impl_Rule A (gtD p0 y11)⟩ :: ⟨_, true, .qtr (eSl E_impl_Test) A (gtD p0 y11)⟩ :: ⟨_, true, .rep (eSl E_impl_Test) A (gtD p0 y11)⟩ :: ⟨_, true, .raw (.int .i64 ((gtD p0 y11).length : Int))⟩ :: ⟨_, true, .raw (.bool (decide (y74 < ((gtD p0 y11).length : Int))))⟩ :: []) (tl := []) (by kernel_rfl) (by kernel_rfl) (by kernel_rfl) ?_ ?_
      ·exact
        Obls.p (fun R' w' hw hs hd => of_move ((hs 5 rfl).trans h5)) <|
        Obls.p (fun R' w' hw hs hd => of_fieldAddr_raw ((hs 1 rfl).trans h1) ff_45_0 Tryd.sizeOf43 (by decide) rfl) <|
        Obls.p (fun R' w' hw hs hd => by have a0 : R' 22 = (.pointer (some ⟨b1_0, 0, none⟩)) := hd.g 0 rfl; exact (of_load_box ((hO.fr hw).ok 0 _ rfl).1 a0 fl_impl_RuleSet_0 rfl Tryd.isAgg43 Tryd.sizeOf43)) <|
        Obls.p (fun R' w' hw hs hd => of_move ((hs 4 rfl).trans h4)) <|
        Obls.p (fun R' w' hw hs hd => by have a0 : Rep (eSl E_impl_Rule) A w' (R' 23) p0 := hd.g 0 rfl; have a1 : R' 24 = .int .i64 y11 := hd.g 1 rfl; exact of_indexAddr a0 a1 Tryd.underlying43 Tryd.sizeOf73 e75) <|
        Obls.p (fun R' w' hw hs hd => by have a0 : QRep E_impl_Rule A w' (R' 25) (gtD p0 y11) := hd.g 0 rfl; exact of_fieldAddr_q a0 ff_73_0 Tryd.sizeOf71 (by decide) fl_impl_Rule_0 rfl) <|
        Obls.p (fun R' w' hw hs hd => by have a0 : QRep (eSl E_impl_Test) A w' (R' 26) (gtD p0 y11) := hd.g 0 rfl; exact (of_load a0.ptr Tryd.isAgg71 Tryd.sizeOf71)) <|
        Obls.p (fun R' w' hw hs hd => by have a0 : Rep (eSl E_impl_Test) A w' (R' 27) (gtD p0 y11) := hd.g 0 rfl; exact of_len_sl (aT := #[]) a0 Tryd.underlying71) <|
        Obls.p (fun R' w' hw hs hd => by have a0 : R' 21 = .int .i64 y74 := hd.g 0 rfl; have a1 : R' 28 = .int .i64 ((gtD p0 y11).length : Int) := hd.g 1 rfl; exact of_lss a0 a1) <|
        Obls.nil
      intro R w hw hs hF'
      replace h1 := (hs 1 rfl).trans h1
      replace h3 := (hs 3 rfl).trans h3
      replace h4 := (hs 4 rfl).trans h4
      replace h5 := (hs 5 rfl).trans h5
      have h29 : R 29 = .bool (decide (y74 < ((gtD p0 y11).length : Int))) := hF' 8 _ _ rfl rfl rfl
      replace f_wl_3 := f_wl_3.fr hw
      replace hO := hO.fr hw
      replace hA := hA.fr hw.size
      replace hF := hF.trans hw
      clear hs hF' hw
      refine seqR_nil ?_
      refine HT.cond (decide (y74 < ((gtD p0 y11).length : Int))) h29 (fun c76 => ?_) (fun c76 => ?_)
      ·have hr := cnd_t c76 hr
       refine HT.skip ?_
       refine HT.seq ?_
       refine HT.block ?_
       refine HT.seq ?_
       obtain ⟨e77, hr⟩ := ck_some hr
       obtain ⟨e78, hr⟩ := ck_some hr
       refine HT.textR [ob (.pointer (some ⟨b1_0, 0, none⟩)) (.box w0.heap.size 45 E_impl_RuleSet p0)] (⟨_, true, [], none, true, fun A => .raw (.pointer (some ⟨b1_0, 0, none⟩))⟩ :: ⟨_, true, [], none, true, fun A => .rep (eSl E_impl_Rule) A p0⟩ :: ⟨_, true, [], none, true, fun A => .raw (.int .i64 y11)⟩ :: ⟨_, true, [], none, true, fun A => .qtr E_impl_Rule A (gtD p0 y11)⟩ :: ⟨_, true, [], none, true, fun A => .qtr (eSl E_impl_Test) A (gtD p0 y11)⟩ :: ⟨_, true, [], none, true, fun A => .rep (eSl E_impl_Test) A (gtD p0 y11)⟩ :: ⟨_, true, [], none, true, fun A => .raw (.int .i64 y74)⟩ :: ⟨_, true, [], none, true, fun A => .qtr E_impl_Test A (gtD (gtD p0 y11) y74)⟩ :: ⟨_, true, [], none, true, fun A => .rep E_impl_Test A (gtD (gtD p0 y11) y74)⟩ :: ⟨_, true, [], some (.box w0.heap.size 67 E_impl_Test ((0 : Int), ((0 : Int), false))), true, fun A => .any⟩ :: ⟨_, true, [10], some (.box w0.heap.size 67 E_impl_Test (gtD (gtD p0 y11) y74)), false, fun A => .any⟩ :: []) (by kernel_rfl) (by kernel_rfl) (Wf.mk' (by kernel_rfl) (UAll.cons ust_raw (UAll.cons ust_rep (UAll.cons ust_raw (UAll.cons ust_qtr (UAll.cons ust_qtr (UAll.cons ust_rep (UAll.cons ust_raw (UAll.cons ust_qtr (UAll.cons ust_rep (UAll.cons ust_any (UAll.cons ust_any (UAll.nil)))))))))))) (by kernel_rfl) (by kernel_rfl)) hO hA ?_ ?_
       ·exact
         OblsR.p (fun A' R' w' ho hd => of_fieldAddr_raw ((ho.old 1 rfl).trans h1) ff_45_0 Tryd.sizeOf43 (by decide) rfl) <|
         OblsR.p (fun A' R' w' ho hd => by have a0 : R' 32 = (.pointer (some ⟨b1_0, 0, none⟩)) := hd.g 0 rfl; exact (of_load_box (ho.rd 0 _ rfl rfl) a0 fl_impl_RuleSet_0 rfl Tryd.isAgg43 Tryd.sizeOf43)) <|
         OblsR.p (fun A' R' w' ho hd => of_move ((ho.old 4 rfl).trans h4)) <|
         OblsR.p (fun A' R' w' ho hd => by have a0 : Rep (eSl E_impl_Rule) A' w' (R' 33) p0 := hd.g 0 rfl; have a1 : R' 34 = .int .i64 y11 := hd.g 1 rfl; exact of_indexAddr a0 a1 Tryd.underlying43 Tryd.sizeOf73 e77) <|
         OblsR.p (fun A' R' w' ho hd => by have a0 : QRep E_impl_Rule A' w' (R' 35) (gtD p0 y11) := hd.g 0 rfl; exact of_fieldAddr_q a0 ff_73_0 Tryd.sizeOf71 (by decide) fl_impl_Rule_0 rfl) <|
         OblsR.p (fun A' R' w' ho hd => by have a0 : QRep (eSl E_impl_Test) A' w' (R' 36) (gtD p0 y11) := hd.g 0 rfl; exact (of_load a0.ptr Tryd.isAgg71 Tryd.sizeOf71)) <|
         OblsR.p (fun A' R' w' ho hd => of_move ((ho.old 5 rfl).trans h5)) <|
         OblsR.p (fun A' R' w' ho hd => by have a0 : Rep (eSl E_impl_Test) A' w' (R' 37) (gtD p0 y11) := hd.g 0 rfl; have a1 : R' 38 = .int .i64 y74 := hd.g 1 rfl; exact of_indexAddr a0 a1 Tryd.underlying71 Tryd.sizeOf67 e78) <|
         OblsR.p (fun A' R' w' ho hd => by have a0 : QRep E_impl_Test A' w' (R' 39) (gtD (gtD p0 y11) y74) := hd.g 0 rfl; exact (of_load a0.ptr Tryd.isAgg67 Tryd.sizeOf67)) <|
         OblsR.cons (OblR.made _ rfl rfl rfl rfl fun A' R' w' ho hd => by exact made_alloc Tryd.zeroValue67 (fun A w => rep_pr rep1_int (rep_pr rep1_int rep1_bool)) (Nat.le_trans hF.size ho.ch.size)) <|
         OblsR.cons (OblR.took 10 _ _ rfl rfl rfl rfl rfl fun A' R' w' ho hd u hok hav hin hop hds => by have a1 : Rep E_impl_Test A' w' (R' 40) (gtD (gtD p0 y11) y74) := hd.g 1 rfl; obtain ⟨b, hb, hB', hbx⟩ := hok; have hop' := hop _ _ rfl rfl rfl rfl; exact took_store a1 (hop'.symm.trans hb) hb ⟨b, hb, hB', hbx⟩ hav (FldS.id _) Tryd.sizeOf67 rfl) <|
         OblsR.nil
       intro done ρ σ A R w hdn hI
       replace h1 : R 1 = (.pointer (some ⟨b1_0, 0, none⟩)) := (hI.reg rfl).trans h1
       replace h3 : R 3 = wl_3 := (hI.reg rfl).trans h3
       replace h4 : R 4 = .int .i64 y11 := (hI.reg rfl).trans h4
       replace h5 : R 5 = .int .i64 y74 := (hI.reg rfl).trans h5
       have z79 := hI.inivR 0 rfl
       obtain ⟨b6_79, e_b6_79⟩ := hI.boxv hdn 11 rfl rfl
       have z81 := (hI.opnR hdn 11 10 rfl rfl rfl rfl rfl).symm.trans e_b6_79
       have h6 : R 6 = (.pointer (some ⟨b6_79, 0, none⟩)) := (hI.opvR hdn 10 9 rfl rfl rfl rfl rfl).symm.trans z81
       replace f_wl_3 := f_wl_3.stp hI.stp
       replace hAA := hI.low' hAA hA0 (hO.ge (⟨rfl, trivial⟩))
       replace hF : Fr w0 w := hF.tr hI.ch (hO.ge (⟨rfl, trivial⟩))
       replace hO : IniOK [ob (.pointer (some ⟨b1_0, 0, none⟩)) (.box w0.heap.size 45 E_impl_RuleSet p0), ob (.pointer (some ⟨b6_79, 0, none⟩)) (.box w0.heap.size 67 E_impl_Test (gtD (gtD p0 y11) y74))] A w := hI.left hdn [(0, ob (.pointer (some ⟨b1_0, 0, none⟩)) (.box w0.heap.size 45 E_impl_RuleSet p0)), (11, ob (.pointer (some ⟨b6_79, 0, none⟩)) (.box w0.heap.size 67 E_impl_Test (gtD (gtD p0 y11) y74)))] ⟨rfl, rfl, z79, rfl, rfl, ⟨rfl, rfl, e_b6_79, rfl, rfl, trivial⟩⟩
       replace hA := hI.avok
       clear hI
       refine HT.seq ?_
       refine HT.seq ?_
       refine HT.text (l := ⟨_, true, .raw (.int .i64 y74)⟩ :: ⟨_, true, .raw (.bool (decide ((0 : Int) < y74)))⟩ :: []) (tl := []) (by kernel_rfl) (by kernel_rfl) (by kernel_rfl) ?_ ?_
       ·exact
         Obls.p (fun R' w' hw hs hd => of_move ((hs 5 rfl).trans h5)) <|
         Obls.p (fun R' w' hw hs hd => by have a0 : R' 41 = .int .i64 y74 := hd.g 0 rfl; exact of_gtr a0 rfl) <|
         Obls.nil
       intro R w hw hs hF'
       replace h1 := (hs 1 rfl).trans h1
       replace h3 := (hs 3 rfl).trans h3
       replace h4 := (hs 4 rfl).trans h4
       replace h5 := (hs 5 rfl).trans h5
       replace h6 := (hs 6 rfl).trans h6
       have h42 : R 42 = .bool (decide ((0 : Int) < y74)) := hF' 1 _ _ rfl rfl rfl
       replace f_wl_3 := f_wl_3.fr hw
       replace hO := hO.fr hw
       replace hA := hA.fr hw.size
       replace hF := hF.trans hw
       clear hs hF' hw
       refine seqR_nil ?_
       refine HT.cond (decide ((0 : Int) < y74)) h42 (fun c82 => ?_) (fun c82 => ?_)
       ·have hr := cnd_t c82 hr
        obtain ⟨e83, hr⟩ := ck_some hr
        refine HT.text (l := ⟨_, true, .raw wl_3⟩ :: ⟨_, true, .rep eStr A (y73 ++ ([44] : List UInt8))⟩ :: ⟨_, true, .rep eStr A (y73 ++ ([44] : List UInt8))⟩ :: []) (tl := []) (by kernel_rfl) (by kernel_rfl) (by kernel_rfl) ?_ ?_
        ·exact
          Obls.p (fun R' w' hw hs hd => of_move ((hs 3 rfl).trans h3)) <|
          Obls.p (fun R' w' hw hs hd => by have a0 : R' 43 = wl_3 := hd.g 0 rfl; have ra0 := (f_wl_3.fr hw).eq a0; exact of_cat ra0 ⟨_, rfl, ⟨_, rfl, rfl, by decide⟩⟩ e83) <|
          Obls.p (fun R' w' hw hs hd => by have a0 : Rep eStr A w' (R' 44) (y73 ++ ([44] : List UInt8)) := hd.g 0 rfl; exact of_assign a0) <|
          Obls.nil
        intro R w hw hs hF'
        replace h1 := (hs 1 rfl).trans h1
        replace h4 := (hs 4 rfl).trans h4
        replace h5 := (hs 5 rfl).trans h5
        replace h6 := (hs 6 rfl).trans h6
        obtain ⟨u84, h3, f_u84⟩ : ∃ u, R 3 = u ∧ Rep eStr A w u (y73 ++ ([44] : List UInt8)) := ⟨_, rfl, hF' 2 _ _ rfl rfl rfl⟩
        replace hO := hO.fr hw
        replace hA := hA.fr hw.size
        replace hF := hF.trans hw
        clear hs hF' hw
        refine seqR_nil ?_
        refine HT.seq ?_
        obtain ⟨x85, q86, hr⟩ := cl_some hr
        obtain ⟨e87, hr⟩ := ck_some hr
        refine HT.text (l := ⟨_, true, .raw u84⟩ :: ⟨_, true, .raw (.pointer (some ⟨b6_79, 0, none⟩))⟩ :: ⟨_, true, .raw (.int .i64 ((gtD (gtD p0 y11) y74).1))⟩ :: ⟨_, true, .rep eStr A x85⟩ :: ⟨_, true, .rep eStr A ((y73 ++ ([44] : List UInt8)) ++ x85)⟩ :: ⟨_, true, .rep eStr A ((y73 ++ ([44] : List UInt8)) ++ x85)⟩ :: []) (tl := []) (by kernel_rfl) (by kernel_rfl) (by kernel_rfl) ?_ ?_
        ·exact
          Obls.p (fun R' w' hw hs hd => of_move ((hs 3 rfl).trans h3)) <|
          Obls.p (fun R' w' hw hs hd => of_fieldAddr_raw ((hs 6 rfl).trans h6) ff_67_0 Tryd.sizeOf3 (by decide) rfl) <|
          Obls.p (fun R' w' hw hs hd => by have a0 : R' 46 = (.pointer (some ⟨b6_79, 0, none⟩)) := hd.g 0 rfl; exact OpF.int (of_load_box ((hO.fr hw).ok 1 _ rfl).1 a0 fl_impl_Test_0 rfl Tryd.isAgg3 Tryd.sizeOf3)) <|
          Obls.p (fun R' w' hw hs hd => by have a0 : R' 47 = .int .i64 ((gtD (gtD p0 y11) y74).1) := hd.g 0 rfl; exact of_call Tryd.call31 (M_spec_FeatureName_ok (q86 rfl) (hA.fr hw.size) a0)) <|
          Obls.p (fun R' w' hw hs hd => by have a0 : R' 45 = u84 := hd.g 0 rfl; have ra0 := (f_u84.fr hw).eq a0; have a1 : Rep eStr A w' (R' 48) x85 := hd.g 1 rfl; exact of_cat ra0 a1 e87) <|
          Obls.p (fun R' w' hw hs hd => by have a0 : Rep eStr A w' (R' 49) ((y73 ++ ([44] : List UInt8)) ++ x85) := hd.g 0 rfl; exact of_assign a0) <|
          Obls.nil
        intro R w hw hs hF'
        replace h1 := (hs 1 rfl).trans h1
        replace h4 := (hs 4 rfl).trans h4
        replace h5 := (hs 5 rfl).trans h5
        replace h6 := (hs 6 rfl).trans h6
        obtain ⟨u88, h3, f_u88⟩ : ∃ u, R 3 = u ∧ Rep eStr A w u ((y73 ++ ([44] : List UInt8)) ++ x85) := ⟨_, rfl, hF' 5 _ _ rfl rfl rfl⟩
        replace hO := hO.fr hw
        replace hA := hA.fr hw.size
        replace hF := hF.trans hw
        clear hs hF' hw
        refine seqR_nil ?_
        refine HT.seq ?_
        refine HT.seq ?_
        refine HT.text (l := ⟨_, true, .raw (.pointer (some ⟨b6_79, 2, none⟩))⟩ :: ⟨_, true, .raw (.bool ((gtD (gtD p0 y11) y74).2.2))⟩ :: []) (tl := []) (by kernel_rfl) (by kernel_rfl) (by kernel_rfl) ?_ ?_
        ·exact
          Obls.p (fun R' w' hw hs hd => of_fieldAddr_raw ((hs 6 rfl).trans h6) ff_67_2 Tryd.sizeOf4 (by decide) rfl) <|
          Obls.p (fun R' w' hw hs hd => by have a0 : R' 50 = (.pointer (some ⟨b6_79, 2, none⟩)) := hd.g 0 rfl; exact OpF.bool (of_load_box ((hO.fr hw).ok 1 _ rfl).1 a0 fl_impl_Test_2 rfl Tryd.isAgg4 Tryd.sizeOf4)) <|
          Obls.nil
        intro R w hw hs hF'
        replace h1 := (hs 1 rfl).trans h1
        replace h3 := (hs 3 rfl).trans h3
        replace h4 := (hs 4 rfl).trans h4
        replace h5 := (hs 5 rfl).trans h5
        replace h6 := (hs 6 rfl).trans h6
        have h51 : R 51 = .bool ((gtD (gtD p0 y11) y74).2.2) := hF' 1 _ _ rfl rfl rfl
        replace f_u88 := f_u88.fr hw
        replace hO := hO.fr hw
        replace hA := hA.fr hw.size
        replace hF := hF.trans hw
        clear hs hF' hw
        refine seqR_nil ?_
        refine HT.cond ((gtD (gtD p0 y11) y74).2.2) h51 (fun c89 => ?_) (fun c89 => ?_)
        ·have hr := cnd_t c89 hr
         obtain ⟨e90, hr⟩ := ck_some hr
         refine HT.text (l := ⟨_, true, .raw u88⟩ :: ⟨_, true, .rep eStr A (((y73 ++ ([44] : List UInt8)) ++ x85) ++ ([60] : List UInt8))⟩ :: ⟨_, true, .rep eStr A (((y73 ++ ([44] : List UInt8)) ++ x85) ++ ([60] : List UInt8))⟩ :: []) (tl := []) (by kernel_rfl) (by kernel_rfl) (by kernel_rfl) ?_ ?_
         ·exact
           Obls.p (fun R' w' hw hs hd => of_move ((hs 3 rfl).trans h3)) <|
           Obls.p (fun R' w' hw hs hd => by have a0 : R' 52 = u88 := hd.g 0 rfl; have ra0 := (f_u88.fr hw).eq a0; exact of_cat ra0 ⟨_, rfl, ⟨_, rfl, rfl, by decide⟩⟩ e90) <|
           Obls.p (fun R' w' hw hs hd => by have a0 : Rep eStr A w' (R' 53) (((y73 ++ ([44] : List UInt8)) ++ x85) ++ ([60] : List UInt8)) := hd.g 0 rfl; exact of_assign a0) <|
           Obls.nil
         intro R w hw hs hF'
         replace h1 := (hs 1 rfl).trans h1
         replace h4 := (hs 4 rfl).trans h4
         replace h5 := (hs 5 rfl).trans h5
         replace h6 := (hs 6 rfl).trans h6
         obtain ⟨u91, h3, f_u91⟩ : ∃ u, R 3 = u ∧ Rep eStr A w u (((y73 ++ ([44] : List UInt8)) ++ x85) ++ ([60] : List UInt8)) := ⟨_, rfl, hF' 2 _ _ rfl rfl rfl⟩
         replace hO := hO.fr hw
         replace hA := hA.fr hw.size
         replace hF := hF.trans hw
         clear hs hF' hw
         refine seqR_nil ?_
         obtain ⟨x92, q93, hr⟩ := cl_some hr
         obtain ⟨e94, hr⟩ := ck_some hr
         refine HT.text (l := ⟨_, true, .raw u91⟩ :: ⟨_, true, .raw (.pointer (some ⟨b6_79, 1, none⟩))⟩ :: ⟨_, true, .raw (.int .i64 ((gtD (gtD p0 y11) y74).2.1))⟩ :: ⟨_, true, .rep eStr A x92⟩ :: ⟨_, true, .rep eStr A ((((y73 ++ ([44] : List UInt8)) ++ x85) ++ ([60] : List UInt8)) ++ x92)⟩ :: ⟨_, true, .rep eStr A ((((y73 ++ ([44] : List UInt8)) ++ x85) ++ ([60] : List UInt8)) ++ x92)⟩ :: []) (tl := []) (by kernel_rfl) (by kernel_rfl) (by kernel_rfl) ?_ ?_
         ·exact
           Obls.p (fun R' w' hw hs hd => of_move ((hs 3 rfl).trans h3)) <|
           Obls.p (fun R' w' hw hs hd => of_fieldAddr_raw ((hs 6 rfl).trans h6) ff_67_1 Tryd.sizeOf3 (by decide) rfl) <|
           Obls.p (fun R' w' hw hs hd => by have a0 : R' 57 = (.pointer (some ⟨b6_79, 1, none⟩)) := hd.g 0 rfl; exact OpF.int (of_load_box ((hO.fr hw).ok 1 _ rfl).1 a0 fl_impl_Test_1 rfl Tryd.isAgg3 Tryd.sizeOf3)) <|
           Obls.p (fun R' w' hw hs hd => by have a0 : R' 58 = .int .i64 ((gtD (gtD p0 y11) y74).2.1) := hd.g 0 rfl; exact of_call Tryd.call32 (M_spec_FormatInt_ok (q93 rfl) (hA.fr hw.size) a0)) <|
           Obls.p (fun R' w' hw hs hd => by have a0 : R' 56 = u91 := hd.g 0 rfl; have ra0 := (f_u91.fr hw).eq a0; have a1 : Rep eStr A w' (R' 59) x92 := hd.g 1 rfl; exact of_cat ra0 a1 e94) <|
           Obls.p (fun R' w' hw hs hd => by have a0 : Rep eStr A w' (R' 60) ((((y73 ++ ([44] : List UInt8)) ++ x85) ++ ([60] : List UInt8)) ++ x92) := hd.g 0 rfl; exact of_assign a0) <|
           Obls.nil
         intro R w hw hs hF'
         replace h1 := (hs 1 rfl).trans h1
         replace h4 := (hs 4 rfl).trans h4
         replace h5 := (hs 5 rfl).trans h5
         obtain ⟨u95, h3, f_u95⟩ : ∃ u, R 3 = u ∧ Rep eStr A w u ((((y73 ++ ([44] : List UInt8)) ++ x85) ++ ([60] : List UInt8)) ++ x92) := ⟨_, rfl, hF' 5 _ _ rfl rfl rfl⟩
         replace hO := hO.fr hw
         replace hO : IniOK [ob (.pointer (some ⟨b1_0, 0, none⟩)) (.box w0.heap.size 45 E_impl_RuleSet p0)] A w := hO.sub [(0, ob (.pointer (some ⟨b1_0, 0, none⟩)) (.box w0.heap.size 45 E_impl_RuleSet p0))] ⟨rfl, rfl, trivial⟩
         replace hA := hA.fr hw.size
         replace hF := hF.trans hw
         clear hs hF' hw
         refine seqR_nil ?_
         obtain ⟨e96, hr⟩ := ck_some hr
         refine HT.text (l := ⟨_, true, .raw (.int .i64 y74)⟩ :: ⟨_, true, .raw (.int .i64 (y74 + (1 : Int)))⟩ :: ⟨_, true, .raw (.int .i64 (y74 + (1 : Int)))⟩ :: []) (tl := []) (by kernel_rfl) (by kernel_rfl) (by kernel_rfl) ?_ ?_
         ·exact
           Obls.p (fun R' w' hw hs hd => of_move ((hs 5 rfl).trans h5)) <|
           Obls.p (fun R' w' hw hs hd => by have a0 : R' 30 = .int .i64 y74 := hd.g 0 rfl; exact of_add a0 rfl e96) <|
           Obls.p (fun R' w' hw hs hd => by have a0 : R' 31 = .int .i64 (y74 + (1 : Int)) := hd.g 0 rfl; exact of_assign a0) <|
           Obls.nil
         intro R w hw hs hF'
         replace h1 := (hs 1 rfl).trans h1
         replace h3 := (hs 3 rfl).trans h3
         replace h4 := (hs 4 rfl).trans h4
         have h5 : R 5 = .int .i64 (y74 + (1 : Int)) := hF' 2 _ _ rfl rfl rfl
         replace f_u95 := f_u95.fr hw
         replace hO := hO.fr hw
         replace hA := hA.fr hw.size
         replace hF := hF.trans hw
         clear hs hF' hw
         refine seqR_nil ?_
         exact Exists.intro k (And.intro (Nat.lt_succ_self k) ⟨_, _, _, u95, hr, hA, hF, hAA, hO, h1, h3, h4, h5, f_u95⟩)
        ·have hr := cnd_f c89 hr
         obtain ⟨e97, hr⟩ := ck_some hr
         refine HT.text (l := ⟨_, true, .raw u88⟩ :: ⟨_, true, .rep eStr A (((y73 ++ ([44] : List UInt8)) ++ x85) ++ ([62, 61] : List UInt8))⟩ :: ⟨_, true, .rep eStr A (((y73 ++ ([44] : List UInt8)) ++ x85) ++ ([62, 61] : List UInt8))⟩ :: []) (tl := []) (by kernel_rfl) (by kernel_rfl) (by kernel_rfl) ?_ ?_
         ·exact
           Obls.p (fun R' w' hw hs hd => of_move ((hs 3 rfl).trans h3)) <|
           Obls.p (fun R' w' hw hs hd => by have a0 : R' 54 = u88 := hd.g 0 rfl; have ra0 := (f_u88.fr hw).eq a0; exact of_cat ra0 ⟨_, rfl, ⟨_, rfl, rfl, by decide⟩⟩ e97) <|
           Obls.p (fun R' w' hw hs hd => by have a0 : Rep eStr A w' (R' 55) (((y73 ++ ([44] : List UInt8)) ++ x85) ++ ([62, 61] : List UInt8)) := hd.g 0 rfl; exact of_assign a0) <|
           Obls.nil
         intro R w hw hs hF'
         replace h1 := (hs 1 rfl).trans h1
         replace h4 := (hs 4 rfl).trans h4
         replace h5 := (hs 5 rfl).trans h5
         replace h6 := (hs 6 rfl).trans h6
         obtain ⟨u98, h3, f_u98⟩ : ∃ u, R 3 = u ∧ Rep eStr A w u (((y73 ++ ([44] : List UInt8)) ++ x85) ++ ([62, 61] : List UInt8)) := ⟨_, rfl, hF' 2 _ _ rfl rfl rfl⟩
         replace hO := hO.fr hw
         replace hA := hA.fr hw.size
         replace hF := hF.trans hw
         clear hs hF' hw
         refine seqR_nil ?_
         obtain ⟨x99, q100, hr⟩ := cl_some hr
         obtain ⟨e101, hr⟩ := ck_some hr
         refine HT.text (l := ⟨_, true, .raw u98⟩ :: ⟨_, true, .raw (.pointer (some ⟨b6_79, 1, none⟩))⟩ :: ⟨_, true, .raw (.int .i64 ((gtD (gtD p0 y11) y74).2.1))⟩ :: ⟨_, true, .rep eStr A x99⟩ :: ⟨_, true, .rep eStr A ((((y73 ++ ([44] : List UInt8)) ++ x85) ++ ([62, 61] : List UInt8)) ++ x99)⟩ :: ⟨_, true, .rep eStr A ((((y73 ++ ([44] : List UInt8)) ++ x85) ++ ([62, 61] : List UInt8)) ++ x99)⟩ :: []) (tl := []) (by kernel_rfl) (by kernel_rfl) (by kernel_rfl) ?_ ?_
         ·exact
           Obls.p (fun R' w' hw hs hd => of_move ((hs 3 rfl).trans h3)) <|
           Obls.p (fun R' w' hw hs hd => of_fieldAddr_raw ((hs 6 rfl).trans h6) ff_67_1 Tryd.sizeOf3 (by decide) rfl) <|
           Obls.p (fun R' w' hw hs hd => by have a0 : R' 57 = (.pointer (some ⟨b6_79, 1, none⟩)) := hd.g 0 rfl; exact OpF.int (of_load_box ((hO.fr hw).ok 1 _ rfl).1 a0 fl_impl_Test_1 rfl Tryd.isAgg3 Tryd.sizeOf3)) <|
           Obls.p (fun R' w' hw hs hd => by have a0 : R' 58 = .int .i64 ((gtD (gtD p0 y11) y74).2.1) := hd.g 0 rfl; exact of_call Tryd.call32 (M_spec_FormatInt_ok (q100 rfl) (hA.fr hw.size) a0)) <|
           Obls.p (fun R' w' hw hs hd => by have a0 : R' 56 = u98 := hd.g 0 rfl; have ra0 := (f_u98.fr hw).eq a0; have a1 : Rep eStr A w' (R' 59) x99 := hd.g 1 rfl; exact of_cat ra0 a1 e101) <|
           Obls.p (fun R' w' hw hs hd => by have a0 : Rep eStr A w' (R' 60) ((((y73 ++ ([44] : List UInt8)) ++ x85) ++ ([62, 61] : List UInt8)) ++ x99) := hd.g 0 rfl; exact of_assign a0) <|
           Obls.nil
         intro R w hw hs hF'
         replace h1 := (hs 1 rfl).trans h1
         replace h4 := (hs 4 rfl).trans h4
         replace h5 := (hs 5 rfl).trans h5
         obtain ⟨u102, h3, f_u102⟩ : ∃ u, R 3 = u ∧ Rep eStr A w u ((((y73 ++ ([44] : List UInt8)) ++ x85) ++ ([62, 61] : List UInt8)) ++ x99) := ⟨_, rfl, hF' 5 _ _ rfl rfl rfl⟩
         replace hO := hO.fr hw
         replace hO : IniOK [ob (.pointer (some ⟨b1_0, 0, none⟩)) (.box w0.heap.size 45 E_impl_RuleSet p0)] A w := hO.sub [(0, ob (.pointer (some ⟨b1_0, 0, none⟩)) (.box w0.heap.size 45 E_impl_RuleSet p0))] ⟨rfl, rfl, trivial⟩
         replace hA := hA.fr hw.size
         replace hF := hF.trans hw
         clear hs hF' hw
         refine seqR_nil ?_
         obtain ⟨e103, hr⟩ := ck_some hr
         refine HT.text (l := ⟨_, true, .raw (.int .i64 y74)⟩ :: ⟨_, true, .raw (.int .i64 (y74 + (1 : Int)))⟩ :: ⟨_, true, .raw (.int .i64 (y74 + (1 : Int)))⟩ :: []) (tl := []) (by kernel_rfl) (by kernel_rfl) (by kernel_rfl) ?_ ?_
         ·exact
           Obls.p (fun R' w' hw hs hd => of_move ((hs 5 rfl).trans h5)) <|
           Obls.p (fun R' w' hw hs hd => by have a0 : R' 30 = .int .i64 y74 := hd.g 0 rfl; exact of_add a0 rfl e103) <|
           Obls.p (fun R' w' hw hs hd => by have a0 : R' 31 = .int .i64 (y74 + (1 : Int)) := hd.g 0 rfl; exact of_assign a0) <|
           Obls.nil
         intro R w hw hs hF'
         replace h1 := (hs 1 rfl).trans h1
         replace h3 := (hs 3 rfl).trans h3
         replace h4 := (hs 4 rfl).trans h4
         have h5 : R 5 = .int .i64 (y74 + (1 : Int)) := hF' 2 _ _ rfl rfl rfl
         replace f_u102 := f_u102.fr hw
         replace hO := hO.fr hw
         replace hA := hA.fr hw.size
         replace hF := hF.trans hw
         clear hs hF' hw
         refine seqR_nil ?_
         exact Exists.intro k (And.intro (Nat.lt_succ_self k) ⟨_, _, _, u102, hr, hA, hF, hAA, hO, h1, h3, h4, h5, f_u102⟩)
       ·have hr := cnd_f c82 hr
        refine HT.skip ?_
        refine HT.seq ?_
        obtain ⟨x104, q105, hr⟩ := cl_some hr
        obtain ⟨e106, hr⟩ := ck_some hr
        refine HT.text (l := ⟨_, true, .raw wl_3⟩ :: ⟨_, true, .raw (.pointer (some ⟨b6_79, 0, none⟩))⟩ :: ⟨_, true, .raw (.int .i64 ((gtD (gtD p0 y11) y74).1))⟩ :: ⟨_, true, .rep eStr A x104⟩ :: ⟨_, true, .rep eStr A (y73 ++ x104)⟩ :: ⟨_, true, .rep eStr A (y73 ++ x104)⟩ :: []) (tl := []) (by kernel_rfl) (by kernel_rfl) (by kernel_rfl) ?_ ?_
        ·exact
          Obls.p (fun R' w' hw hs hd => of_move ((hs 3 rfl).trans h3)) <|
          Obls.p (fun R' w' hw hs hd => of_fieldAddr_raw ((hs 6 rfl).trans h6) ff_67_0 Tryd.sizeOf3 (by decide) rfl) <|
          Obls.p (fun R' w' hw hs hd => by have a0 : R' 46 = (.pointer (some ⟨b6_79, 0, none⟩)) := hd.g 0 rfl; exact OpF.int (of_load_box ((hO.fr hw).ok 1 _ rfl).1 a0 fl_impl_Test_0 rfl Tryd.isAgg3 Tryd.sizeOf3)) <|
          Obls.p (fun R' w' hw hs hd => by have a0 : R' 47 = .int .i64 ((gtD (gtD p0 y11) y74).1) := hd.g 0 rfl; exact of_call Tryd.call31 (M_spec_FeatureName_ok (q105 rfl) (hA.fr hw.size) a0)) <|
          Obls.p (fun R' w' hw hs hd => by have a0 : R' 45 = wl_3 := hd.g 0 rfl; have ra0 := (f_wl_3.fr hw).eq a0; have a1 : Rep eStr A w' (R' 48) x104 := hd.g 1 rfl; exact of_cat ra0 a1 e106) <|
          Obls.p (fun R' w' hw hs hd => by have a0 : Rep eStr A w' (R' 49) (y73 ++ x104) := hd.g 0 rfl; exact of_assign a0) <|
          Obls.nil
        intro R w hw hs hF'
        replace h1 := (hs 1 rfl).trans h1
        replace h4 := (hs 4 rfl).trans h4
        replace h5 := (hs 5 rfl).trans h5
        replace h6 := (hs 6 rfl).trans h6
        obtain ⟨u107, h3, f_u107⟩ : ∃ u, R 3 = u ∧ Rep eStr A w u (y73 ++ x104) := ⟨_, rfl, hF' 5 _ _ rfl rfl rfl⟩
        replace hO := hO.fr hw
        replace hA := hA.fr hw.size
        replace hF := hF.trans hw
        clear hs hF' hw
        refine seqR_nil ?_
        refine HT.seq ?_
        refine HT.seq ?_
        refine HT.text (l := ⟨_, true, .raw (.pointer (some ⟨b6_79, 2, none⟩))⟩ :: ⟨_, true, .raw (.bool ((gtD (gtD p0 y11) y74).2.2))⟩ :: []) (tl := []) (by kernel_rfl) (by kernel_rfl) (by kernel_rfl) ?_ ?_
        ·exact
          Obls.p (fun R' w' hw hs hd => of_fieldAddr_raw ((hs 6 rfl).trans h6) ff_67_2 Tryd.sizeOf4 (by decide) rfl) <|
          Obls.p (fun R' w' hw hs hd => by have a0 : R' 50 = (.pointer (some ⟨b6_79, 2, none⟩)) := hd.g 0 rfl; exact OpF.bool (of_load_box ((hO.fr hw).ok 1 _ rfl).1 a0 fl_impl_Test_2 rfl Tryd.isAgg4 Tryd.sizeOf4)) <|
          Obls.nil
        intro R w hw hs hF'
        replace h1 := (hs 1 rfl).trans h1
        replace h3 := (hs 3 rfl).trans h3
        replace h4 := (hs 4 rfl).trans h4
        replace h5 := (hs 5 rfl).trans h5
        replace h6 := (hs 6 rfl).trans h6
        have h51 : R 51 = .bool ((gtD (gtD p0 y11) y74).2.2) := hF' 1 _ _ rfl rfl rfl
        replace f_u107 := f_u107.fr hw
        replace hO := hO.fr hw
        replace hA := hA.fr hw.size
        replace hF := hF.trans hw
        clear hs hF' hw
        refine seqR_nil ?_
        refine HT.cond ((gtD (gtD p0 y11) y74).2.2) h51 (fun c108 => ?_) (fun c108 => ?_)
        ·have hr := cnd_t c108 hr
         obtain ⟨e109, hr⟩ := ck_some hr
         refine HT.text (l := ⟨_, true, .raw u107⟩ :: ⟨_, true, .rep eStr A ((y73 ++ x104) ++ ([60] : List UInt8))⟩ :: ⟨_, true, .rep eStr A ((y73 ++ x104) ++ ([60] : List UInt8))⟩ :: []) (tl := []) (by kernel_rfl) (by kernel_rfl) (by kernel_rfl) ?_ ?_
         ·exact
           Obls.p (fun R' w' hw hs hd => of_move ((hs 3 rfl).trans h3)) <|
           Obls.p (fun R' w' hw hs hd => by have a0 : R' 52 = u107 := hd.g 0 rfl; have ra0 := (f_u107.fr hw).eq a0; exact of_cat ra0 ⟨_, rfl, ⟨_, rfl, rfl, by decide⟩⟩ e109) <|
           Obls.p (fun R' w' hw hs hd => by have a0 : Rep eStr A w' (R' 53) ((y73 ++ x104) ++ ([60] : List UInt8)) := hd.g 0 rfl; exact of_assign a0) <|
           Obls.nil
         intro R w hw hs hF'
         replace h1 := (hs 1 rfl).trans h1
         replace h4 := (hs 4 rfl).trans h4
         replace h5 := (hs 5 rfl).trans h5
         replace h6 := (hs 6 rfl).trans h6
         obtain ⟨u110, h3, f_u110⟩ : ∃ u, R 3 = u ∧ Rep eStr A w u ((y73 ++ x104) ++ ([60] : List UInt8)) := ⟨_, rfl, hF' 2 _ _ rfl rfl rfl⟩
         replace hO := hO.fr hw
         replace hA := hA.fr hw.size
         replace hF := hF.trans hw
         clear hs hF' hw
         refine seqR_nil ?_
         obtain ⟨x111, q112, hr⟩ := cl_some hr
         obtain ⟨e113, hr⟩ := ck_some hr
         refine HT.text (l := ⟨_, true, .raw u110⟩ :: ⟨_, true, .raw (.pointer (some ⟨b6_79, 1, none⟩))⟩ :: ⟨_, true, .raw (.int .i64 ((gtD (gtD p0 y11) y74).2.1))⟩ :: ⟨_, true, .rep eStr A x111⟩ :: ⟨_, true, .rep eStr A (((y73 ++ x104) ++ ([60] : List UInt8)) ++ x111)⟩ :: ⟨_, true, .rep eStr A (((y73 ++ x104) ++ ([60] : List UInt8)) ++ x111)⟩ :: []) (tl := []) (by kernel_rfl) (by kernel_rfl) (by kernel_rfl) ?_ ?_
         ·exact
           Obls.p (fun R' w' hw hs hd => of_move ((hs 3 rfl).trans h3)) <|
           Obls.p (fun R' w' hw hs hd => of_fieldAddr_raw ((hs 6 rfl).trans h6) ff_67_1 Tryd.sizeOf3 (by decide) rfl) <|
           Obls.p (fun R' w' hw hs hd => by have a0 : R' 57 = (.pointer (some ⟨b6_79, 1, none⟩)) := hd.g 0 rfl; exact OpF.int (of_load_box ((hO.fr hw).ok 1 _ rfl).1 a0 fl_impl_Test_1 rfl Tryd.isAgg3 Tryd.sizeOf3)) <|
           Obls.p (fun R' w' hw hs hd => by have a0 : R' 58 = .int .i64 ((gtD (gtD p0 y11) y74).2.1) := hd.g 0 rfl; exact of_call Tryd.call32 (M_spec_FormatInt_ok (q112 rfl) (hA.fr hw.size) a0)) <|
           Obls.p (fun R' w' hw hs hd => by have a0 : R' 56 = u110 := hd.g 0 rfl; have ra0 := (f_u110.fr hw).eq a0; have a1 : Rep eStr A w' (R' 59) x111 := hd.g 1 rfl; exact of_cat ra0 a1 e113) <|
           Obls.p (fun R' w' hw hs hd => by have a0 : Rep eStr A w' (R' 60) (((y73 ++ x104) ++ ([60] : List UInt8)) ++ x111) := hd.g 0 rfl; exact of_assign a0) <|
           Obls.nil
         intro R w hw hs hF'
         replace h1 := (hs 1 rfl).trans h1
         replace h4 := (hs 4 rfl).trans h4
         replace h5 := (hs 5 rfl).trans h5
         obtain ⟨u114, h3, f_u114⟩ : ∃ u, R 3 = u ∧ Rep eStr A w u (((y73 ++ x104) ++ ([60] : List UInt8)) ++ x111) := ⟨_, rfl, hF' 5 _ _ rfl rfl rfl⟩
         replace hO := hO.fr hw
         replace hO : IniOK [ob (.pointer (some ⟨b1_0, 0, none⟩)) (.box w0.heap.size 45 E_impl_RuleSet p0)] A w := hO.sub [(0, ob (.pointer (some ⟨b1_0, 0, none⟩)) (.box w0.heap.size 45 E_impl_RuleSet p0))] ⟨rfl, rfl, trivial⟩
         replace hA := hA.fr hw.size
         replace hF := hF.trans hw
         clear hs hF' hw
         refine seqR_nil ?_
         obtain ⟨e115, hr⟩ := ck_some hr
         refine HT.text (l := ⟨_, true, .raw (.int .i64 y74)⟩ :: ⟨_, true, .raw (.int .i64 (y74 + (1 : Int)))⟩ :: ⟨_, true, .raw (.int .i64 (y74 + (1 : Int)))⟩ :: []) (tl := []) (by kernel_rfl) (by kernel_rfl) (by kernel_rfl) ?_ ?_
         ·exact
           Obls.p (fun R' w' hw hs hd => of_move ((hs 5 rfl).trans h5)) <|
           Obls.p (fun R' w' hw hs hd => by have a0 : R' 30 = .int .i64 y74 := hd.g 0 rfl; exact of_add a0 rfl e115) <|
           Obls.p (fun R' w' hw hs hd => by have a0 : R' 31 = .int .i64 (y74 + (1 : Int)) := hd.g 0 rfl; exact of_assign a0) <|
           Obls.nil
         intro R w hw hs hF'
         replace h1 := (hs 1 rfl).trans h1
         replace h3 := (hs 3 rfl).trans h3
         replace h4 := (hs 4 rfl).trans h4
         have h5 : R 5 = .int .i64 (y74 + (1 : Int)) := hF' 2 _ _ rfl rfl rfl
         replace f_u114 := f_u114.fr hw
         replace hO := hO.fr hw
         replace hA := hA.fr hw.size
         replace hF := hF.trans hw
         clear hs hF' hw
         refine seqR_nil ?_
         exact Exists.intro k (And.intro (Nat.lt_succ_self k) ⟨_, _, _, u114, hr, hA, hF, hAA, hO, h1, h3, h4, h5, f_u114⟩)
        ·have hr := cnd_f c108 hr
         obtain ⟨e116, hr⟩ := ck_some hr
         refine HT.text (l := ⟨_, true, .raw u107⟩ :: ⟨_, true, .rep eStr A ((y73 ++ x104) ++ ([62, 61] : List UInt8))⟩ :: ⟨_, true, .rep eStr A ((y73 ++ x104) ++ ([62, 61] : List UInt8))⟩ :: []) (tl := []) (by kernel_rfl) (by kernel_rfl) (by kernel_rfl) ?_ ?_
         ·exact
           Obls.p (fun R' w' hw hs hd => of_move ((hs 3 rfl).trans h3)) <|
           Obls.p (fun R' w' hw hs hd => by have a0 : R' 54 = u107 := hd.g 0 rfl; have ra0 := (f_u107.fr hw).eq a0; exact of_cat ra0 ⟨_, rfl, ⟨_, rfl, rfl, by decide⟩⟩ e116) <|
           Obls.p (fun R' w' hw hs hd => by have a0 : Rep eStr A w' (R' 55) ((y73 ++ x104) ++ ([62, 61] : List UInt8)) := hd.g 0 rfl; exact of_assign a0) <|
           Obls.nil
         intro R w hw hs hF'
         replace h1 := (hs 1 rfl).trans h1
         replace h4 := (hs 4 rfl).trans h4
         replace h5 := (hs 5 rfl).trans h5
         replace h6 := (hs 6 rfl).trans h6
         obtain ⟨u117, h3, f_u117⟩ : ∃ u, R 3 = u ∧ Rep eStr A w u ((y73 ++ x104) ++ ([62, 61] : List UInt8)) := ⟨_, rfl, hF' 2 _ _ rfl rfl rfl⟩
         replace hO := hO.fr hw
         replace hA := hA.fr hw.size
         replace hF := hF.trans hw
         clear hs hF' hw
         refine seqR_nil ?_
         obtain ⟨x118, q119, hr⟩ := cl_some hr
         obtain ⟨e120, hr⟩ := ck_some hr
         refine HT.text (l := ⟨_, true, .raw u117⟩ :: ⟨_, true, .raw (.pointer (some ⟨b6_79, 1, none⟩))⟩ :: ⟨_, true, .raw (.int .i64 ((gtD (gtD p0 y11) y74).2.1))⟩ :: ⟨_, true, .rep eStr A x118⟩ :: ⟨_, true, .rep eStr A (((y73 ++ x104) ++ ([62, 61] : List UInt8)) ++ x118)⟩ :: ⟨_, true, .rep eStr A (((y73 ++ x104) ++ ([62, 61] : List UInt8)) ++ x118)⟩ :: []) (tl := []) (by kernel_rfl) (by kernel_rfl) (by kernel_rfl) ?_ ?_
         ·exact
           Obls.p (fun R' w' hw hs hd => of_move ((hs 3 rfl).trans h3)) <|
           Obls.p (fun R' w' hw hs hd => of_fieldAddr_raw ((hs 6 rfl).trans h6) ff_67_1 Tryd.sizeOf3 (by decide) rfl) <|
           Obls.p (fun R' w' hw hs hd => by have a0 : R' 57 = (.pointer (some ⟨b6_79, 1, none⟩)) := hd.g 0 rfl; exact OpF.int (of_load_box ((hO.fr hw).ok 1 _ rfl).1 a0 fl_impl_Test_1 rfl Tryd.isAgg3 Tryd.sizeOf3)) <|
           Obls.p (fun R' w' hw hs hd => by have a0 : R' 58 = .int .i64 ((gtD (gtD p0 y11) y74).2.1) := hd.g 0 rfl; exact of_call Tryd.call32 (M_spec_FormatInt_ok (q119 rfl) (hA.fr hw.size) a0)) <|
           Obls.p (fun R' w' hw hs hd => by have a0 : R' 56 = u117 := hd.g 0 rfl; have ra0 := (f_u117.fr hw).eq a0; have a1 : Rep eStr A w' (R' 59) x118 := hd.g 1 rfl; exact of_cat ra0 a1 e120) <|
           Obls.p (fun R' w' hw hs hd => by have a0 : Rep eStr A w' (R' 60) (((y73 ++ x104) ++ ([62, 61] : List UInt8)) ++ x118) := hd.g 0 rfl; exact of_assign a0) <|
           Obls.nil
         intro R w hw hs hF'
         replace h1 := (hs 1 rfl).trans h1
         replace h4 := (hs 4 rfl).trans h4
         replace h5 := (hs 5 rfl).trans h5
         obtain ⟨u121, h3, f_u121⟩ : ∃ u, R 3 = u ∧ Rep eStr A w u (((y73 ++ x104) ++ ([62, 61] : List UInt8)) ++ x118) := ⟨_, rfl, hF' 5 _ _ rfl rfl rfl⟩
         replace hO := hO.fr hw
         replace hO : IniOK [ob (.pointer (some ⟨b1_0, 0, none⟩)) (.box w0.heap.size 45 E_impl_RuleSet p0)] A w := hO.sub [(0, ob (.pointer (some ⟨b1_0, 0, none⟩)) (.box w0.heap.size 45 E_impl_RuleSet p0))] ⟨rfl, rfl, trivial⟩
         replace hA := hA.fr hw.size
         replace hF := hF.trans hw
         clear hs hF' hw
         refine seqR_nil ?_
         obtain ⟨e122, hr⟩ := ck_some hr
         refine HT.text (l := ⟨_, true, .raw (.int .i64 y74)⟩ :: ⟨_, true, .raw (.int .i64 (y74 + (1 : Int)))⟩ :: ⟨_, true, .raw (.int .i64 (y74 + (1 : Int)))⟩ :: []) (tl := []) (by kernel_rfl) (by kernel_rfl) (by kernel_rfl) ?_ ?_
         ·exact
           Obls.p (fun R' w' hw hs hd => of_move ((hs 5 rfl).trans h5)) <|
           Obls.p (fun R' w' hw hs hd => by have a0 : R' 30 = .int .i64 y74 := hd.g 0 rfl; exact of_add a0 rfl e122) <|
           Obls.p (fun R' w' hw hs hd => by have a0 : R' 31 = .int .i64 (y74 + (1 : Int)) := hd.g 0 rfl; exact of_assign a0) <|
           Obls.nil
         intro R w hw hs hF'
         replace h1 := (hs 1 rfl).trans h1
         replace h3 := (hs 3 rfl).trans h3
         replace h4 := (hs 4 rfl).trans h4
         have h5 : R 5 = .int .i64 (y74 + (1 : Int)) := hF' 2 _ _ rfl rfl rfl
         replace f_u121 := f_u121.fr hw
         replace hO := hO.fr hw
         replace hA := hA.fr hw.size
         replace hF := hF.trans hw
         clear hs hF' hw
         refine seqR_nil ?_
         exact Exists.intro k (And.intro (Nat.lt_succ_self k) ⟨_, _, _, u121, hr, hA, hF, hAA, hO, h1, h3, h4, h5, f_u121⟩)
      ·have hr := cnd_f c76 hr
       refine HT.exit ?_
       obtain rfl := Option.some.inj hr
       exact Exists.intro _ ⟨_, wl_3, rfl, hA, hF, hAA, hO, h1, h3, h4, f_wl_3⟩
     rintro R w ⟨A, s72, wo_3, es, hA, hF, hAA, hO, h1, h3, h4, f_wo_3⟩
     obtain rfl := es.symm
     obtain ⟨e123, hr⟩ := ck_some hr
     refine HT.text (l := ⟨_, true, .raw (.int .i64 y11)⟩ :: ⟨_, true, .raw (.int .i64 (y11 + (1 : Int)))⟩ :: ⟨_, true, .raw (.int .i64 (y11 + (1 : Int)))⟩ :: []) (tl := []) (by kernel_rfl) (by kernel_rfl) (by kernel_rfl) ?_ ?_
     ·exact
       Obls.p (fun R' w' hw hs hd => of_move ((hs 4 rfl).trans h4)) <|
       Obls.p (fun R' w' hw hs hd => by have a0 : R' 15 = .int .i64 y11 := hd.g 0 rfl; exact of_add a0 rfl e123) <|
       Obls.p (fun R' w' hw hs hd => by have a0 : R' 16 = .int .i64 (y11 + (1 : Int)) := hd.g 0 rfl; exact of_assign a0) <|
       Obls.nil
     intro R w hw hs hF'
     replace h1 := (hs 1 rfl).trans h1
     replace h3 := (hs 3 rfl).trans h3
     have h4 : R 4 = .int .i64 (y11 + (1 : Int)) := hF' 2 _ _ rfl rfl rfl
     replace f_wo_3 := f_wo_3.fr hw
     replace hO := hO.fr hw
     replace hA := hA.fr hw.size
     replace hF := hF.trans hw
     clear hs hF' hw
     refine seqR_nil ?_
     exact Exists.intro k (And.intro (Nat.lt_succ_self k) ⟨_, _, _, wo_3, hr, hA, hF, hAA, hO, h1, h3, h4, f_wo_3⟩)
   ·have hr := cnd_f c12 hr
    refine HT.exit ?_
    obtain rfl := Option.some.inj hr
    replace hO : IniOK [] A w := hO.sub [] trivial
    exact Exists.intro _ ⟨_, wl_3, rfl, hA, hF, hAA, hO, h3, f_wl_3⟩
  rintro R w ⟨A, s9, wo_3, es, hA, hF, hAA, hO, h3, f_wo_3⟩
  obtain rfl := es.symm
  refine HT.seq ?_
  refine HT.text (l := ⟨_, true, .raw wo_3⟩ :: ⟨_, true, .raw wo_3⟩ :: []) (tl := []) (by kernel_rfl) (by kernel_rfl) (by kernel_rfl) ?_ ?_
  ·exact
    Obls.p (fun R' w' hw hs hd => of_move ((hs 3 rfl).trans h3)) <|
    Obls.p (fun R' w' hw hs hd => by have a0 : R' 61 = wo_3 := hd.g 0 rfl; exact of_assign a0) <|
    Obls.nil
  intro R w hw hs hF'
  have h2 : R 2 = wo_3 := hF' 1 _ _ rfl rfl rfl
  replace f_wo_3 := f_wo_3.fr hw
  replace hO := hO.fr hw
  replace hA := hA.fr hw.size
  replace hF := hF.trans hw
  clear hs hF' hw
  refine seqR_nil ?_
  refine HT.ret ?_
  obtain rfl := Option.some.inj hr
  exact ⟨.inr rfl, [R 2], ⟨rfl, trivial⟩, (f_wo_3.eq h2).down hAA, hF⟩
def M_impl_within (fu : Nat) (p0 : Int) (p1 : Int) (p2 : Int) : Option Bool :=
 bd ((decide (p1 ≤ p0)) && (decide (p0 ≤ p2))) fun x1 =>
 some x1
theorem M_impl_within_ok {fu : Nat} {A : Av} {p0 : Int} {p1 : Int} {p2 : Int} {r : Bool} (hr : M_impl_within fu p0 p1 p2 = some r) {w : World} {v0 : Value} {v1 : Value} {v2 : Value} (hA : AvOK A w) (h0 : v0 = .int .i64 p0) (h1 : v1 = .int .i64 p1) (h2 : v2 = .int .i64 p2) :
  Calls Tryd.prog 59 #[v0, v1, v2] w fun e w' => ∃ v, e = .returned v ∧ (v = .bool r ∧ Fr w w') := by
 unfold M_impl_within at hr
 obtain ⟨w0, hw0⟩ : ∃ w0, w0 = w := ⟨_, rfl⟩
 have hF : Fr w0 w := hw0 ▸ Fr.refl _
 rw [show Fr w = Fr w0 from hw0 ▸ rfl]
 clear hw0
 refine calls_of_HT2 [.tmp 6] Tryd.func59 Tryd.ntmps59 (by decide) rfl rfl (Nat.le_of_ble_eq_true rfl) ?_
 intro R hR
 replace h0 : R 0 = .int .i64 p0 := (hR 0 _ rfl).trans h0
 replace h1 : R 1 = .int .i64 p1 := (hR 1 _ rfl).trans h1
 replace h2 : R 2 = .int .i64 p2 := (hR 2 _ rfl).trans h2
 clear hR
 refine HT.seq ?_
 refine HT.text (l := ⟨_, true, .raw (.bool false)⟩ :: []) (tl := []) (by kernel_rfl) (by kernel_rfl) (by kernel_rfl) ?_ ?_
 ·exact
   Obls.p (fun R' w' hw hs hd => of_assign rfl) <|
   Obls.nil
 intro R w hw hs hF'
 replace h0 := (hs 0 rfl).trans h0
 replace h1 := (hs 1 rfl).trans h1
 replace h2 := (hs 2 rfl).trans h2
 replace hA := hA.fr hw.size
 replace hF := hF.trans hw
 clear hs hF' hw
 refine seqR_nil ?_
 refine HT.seq ?_
 obtain ⟨x1, q2, hr⟩ := bd_some hr
 refine HT.text (l := ⟨_, true, .raw (.int .i64 p0)⟩ :: ⟨_, true, .raw (.int .i64 p1)⟩ :: ⟨_, true, .raw (.bool (decide (p1 ≤ p0)))⟩ :: ⟨_, true, .raw (.bool (decide (p1 ≤ p0)))⟩ :: ⟨_, (true && ((decide (p1 ≤ p0)) == true)), .raw (.int .i64 p0)⟩ :: ⟨_, (true && ((decide (p1 ≤ p0)) == true)), .raw (.int .i64 p2)⟩ :: ⟨_, (true && ((decide (p1 ≤ p0)) == true)), .raw (.bool (decide (p0 ≤ p2)))⟩ :: ⟨_, true, .raw (.bool x1)⟩ :: ⟨_, true, .raw (.bool x1)⟩ :: []) (tl := []) (by kernel_rfl) (by kernel_rfl) (by kernel_rfl) ?_ ?_
 ·exact
   Obls.p (fun R' w' hw hs hd => of_move ((hs 0 rfl).trans h0)) <|
   Obls.p (fun R' w' hw hs hd => of_move ((hs 1 rfl).trans h1)) <|
   Obls.p (fun R' w' hw hs hd => by have a0 : R' 7 = .int .i64 p0 := hd.g 0 rfl; have a1 : R' 8 = .int .i64 p1 := hd.g 1 rfl; exact of_geq a0 a1) <|
   Obls.p (fun R' w' hw hs hd => by have a0 : R' 9 = .bool (decide (p1 ≤ p0)) := hd.g 0 rfl; exact of_move a0) <|
   Obls.cons (Obl.grd 3 true _ _ _ rfl rfl rfl rfl rfl (by kernel_rfl) fun hg R' w' hw hs hd => by have a0 : R' 0 = .int .i64 p0 := (hs 0 rfl).trans h0; exact of_move a0) <|
   Obls.cons (Obl.grd 3 true _ _ _ rfl rfl rfl rfl rfl (by kernel_rfl) fun hg R' w' hw hs hd => by have a0 : R' 2 = .int .i64 p2 := (hs 2 rfl).trans h2; exact of_move a0) <|
   Obls.cons (Obl.grd 3 true _ _ _ rfl rfl rfl rfl rfl (by kernel_rfl) fun hg R' w' hw hs hd => by have a0 : R' 11 = .int .i64 p0 := hd 0 _ _ _ rfl rfl rfl rfl hg; have a1 : R' 12 = .int .i64 p2 := hd 1 _ _ _ rfl rfl rfl rfl hg; exact of_leq a0 a1) <|
   Obls.p (fun R' w' hw hs hd => by have a0 : R' 10 = .bool (decide (p1 ≤ p0)) := hd.g 0 rfl; exact of_pick (decide (p1 ≤ p0)) a0 (fun hc => by have a1 : R' 13 = .bool (decide (p0 ≤ p2)) := hd 1 _ _ _ rfl rfl rfl rfl (g_and rfl (beq_of hc)); show _ = Value.bool x1; rw [q2, hc]; exact a1) (fun hc => by show _ = Value.bool x1; rw [q2, hc]; exact rfl)) <|
   Obls.p (fun R' w' hw hs hd => by have a0 : R' 14 = .bool x1 := hd.g 0 rfl; exact of_assign a0) <|
   Obls.nil
 intro R w hw hs hF'
 have h6 : R 6 = .bool x1 := hF' 8 _ _ rfl rfl rfl
 replace hA := hA.fr hw.size
 replace hF := hF.trans hw
 clear hs hF' hw
 refine seqR_nil ?_
 refine HT.ret ?_
 obtain rfl := Option.some.inj hr
 exact ⟨.inr rfl, [R 6], ⟨rfl, trivial⟩, h6, hF⟩
def M_impl_isFeature (fu : Nat) (p0 : Int) : Option Bool :=
 cl true (M_impl_within fu p0 (0 : Int) (5 : Int)) fun x1 =>
 some x1
theorem M_impl_isFeature_ok {fu : Nat} {A : Av} {p0 : Int} {r : Bool} (hr : M_impl_isFeature fu p0 = some r) {w : World} {v0 : Value} (hA : AvOK A w) (h0 : v0 = .int .i64 p0) :
  Calls Tryd.prog 66 #[v0] w fun e w' => ∃ v, e = .returned v ∧ (v = .bool r ∧ Fr w w') := by
 unfold M_impl_isFeature at hr
 obtain ⟨w0, hw0⟩ : ∃ w0, w0 = w := ⟨_, rfl⟩
 have hF : Fr w0 w := hw0 ▸ Fr.refl _
 rw [show Fr w = Fr w0 from hw0 ▸ rfl]
 clear hw0
 refine calls_of_HT2 [.tmp 2] Tryd.func66 Tryd.ntmps66 (by decide) rfl rfl (Nat.le_of_ble_eq_true rfl) ?_
 intro R hR
 replace h0 : R 0 = .int .i64 p0 := (hR 0 _ rfl).trans h0
 clear hR
 refine HT.seq ?_
 refine HT.text (l := ⟨_, true, .raw (.bool false)⟩ :: []) (tl := []) (by kernel_rfl) (by kernel_rfl) (by kernel_rfl) ?_ ?_
 ·exact
   Obls.p (fun R' w' hw hs hd => of_assign rfl) <|
   Obls.nil
 intro R w hw hs hF'
 replace h0 := (hs 0 rfl).trans h0
 replace hA := hA.fr hw.size
 replace hF := hF.trans hw
 clear hs hF' hw
 refine seqR_nil ?_
 refine HT.seq ?_
 obtain ⟨x1, q2, hr⟩ := cl_some hr
 refine HT.text (l := ⟨_, true, .raw (.int .i64 p0)⟩ :: ⟨_, true, .raw (.bool x1)⟩ :: ⟨_, true, .raw (.bool x1)⟩ :: []) (tl := []) (by kernel_rfl) (by kernel_rfl) (by kernel_rfl) ?_ ?_
 ·exact
   Obls.p (fun R' w' hw hs hd => of_move ((hs 0 rfl).trans h0)) <|
   Obls.p (fun R' w' hw hs hd => by have a0 : R' 3 = .int .i64 p0 := hd.g 0 rfl; exact of_call Tryd.call59 (M_impl_within_ok (q2 rfl) (hA.fr hw.size) a0 rfl rfl)) <|
   Obls.p (fun R' w' hw hs hd => by have a0 : R' 4 = .bool x1 := hd.g 0 rfl; exact of_assign a0) <|
   Obls.nil
 intro R w hw hs hF'
 have h2 : R 2 = .bool x1 := hF' 2 _ _ rfl rfl rfl
 replace hA := hA.fr hw.size
 replace hF := hF.trans hw
 clear hs hF' hw
 refine seqR_nil ?_
 refine HT.ret ?_
 obtain rfl := Option.some.inj hr
 exact ⟨.inr rfl, [R 2], ⟨rfl, trivial⟩, h2, hF⟩
def M_impl_isThreshold (fu : Nat) (p0 : Int) : Option Bool :=
 cl true (M_impl_within fu p0 (1 : Int) (1000 : Int)) fun x1 =>
 some x1
theorem M_impl_isThreshold_ok {fu : Nat} {A : Av} {p0 : Int} {r : Bool} (hr : M_impl_isThreshold fu p0 = some r) {w : World} {v0 : Value} (hA : AvOK A w) (h0 : v0 = .int .i64 p0) :
  Calls Tryd.prog 67 #[v0] w fun e w' => ∃ v, e = .returned v ∧ (v = .bool r ∧ Fr w w') := by
 unfold M_impl_isThreshold at hr
 obtain ⟨w0, hw0⟩ : ∃ w0, w0 = w := ⟨_, rfl⟩
 have hF : Fr w0 w := hw0 ▸ Fr.refl _
 rw [show Fr w = Fr w0 from hw0 ▸ rfl]
 clear hw0
 refine calls_of_HT2 [.tmp 2] Tryd.func67 Tryd.ntmps67 (by decide) rfl rfl (Nat.le_of_ble_eq_true rfl) ?_
 intro R hR
 replace h0 : R 0 = .int .i64 p0 := (hR 0 _ rfl).trans h0
 clear hR
 refine HT.seq ?_
 refine HT.text (l := ⟨_, true, .raw (.bool false)⟩ :: []) (tl := []) (by kernel_rfl) (by kernel_rfl) (by kernel_rfl) ?_ ?_
 ·exact
   Obls.p (fun R' w' hw hs hd => of_assign rfl) <|
   Obls.nil
 intro R w hw hs hF'
 replace h0 := (hs 0 rfl).trans h0
 replace hA := hA.fr hw.size
 replace hF := hF.trans hw
 clear hs hF' hw
 refine seqR_nil ?_
 refine HT.seq ?_
 obtain ⟨x1, q2, hr⟩ := cl_some hr
 refine HT.text (l := ⟨_, true, .raw (.int .i64 p0)⟩ :: ⟨_, true, .raw (.bool x1)⟩ :: ⟨_, true, .raw (.bool x1)⟩ :: []) (tl := []) (by kernel_rfl) (by kernel_rfl) (by kernel_rfl) ?_ ?_
 ·exact
   Obls.p (fun R' w' hw hs hd => of_move ((hs 0 rfl).trans h0)) <|
   Obls.p (fun R' w' hw hs hd => by have a0 : R' 3 = .int .i64 p0 := hd.g 0 rfl; exact of_call Tryd.call59 (M_impl_within_ok (q2 rfl) (hA.fr hw.size) a0 rfl rfl)) <|
   Obls.p (fun R' w' hw hs hd => by have a0 : R' 4 = .bool x1 := hd.g 0 rfl; exact of_assign a0) <|
   Obls.nil
 intro R w hw hs hF'
 have h2 : R 2 = .bool x1 := hF' 2 _ _ rfl rfl rfl
 replace hA := hA.fr hw.size
 replace hF := hF.trans hw
 clear hs hF' hw
 refine seqR_nil ?_
 refine HT.ret ?_
 obtain rfl := Option.some.inj hr
 exact ⟨.inr rfl, [R 2], ⟨rfl, trivial⟩, h2, hF⟩
def M_impl_IsValidRules_L1 (fu : Nat) (p0 : T_impl_RuleSet) (y6 : Int) : Nat → Int → Option (Ex Bool Unit)
 | 0, _ => none
 | k + 1, y19 =>
  bif (decide (y19 < ((gtD p0 y6).length : Int))) then (
   ck (inR y19 (gtD p0 y6).length) <|
   cl true (M_impl_isFeature fu ((gtD (gtD p0 y6) y19).1)) fun x26 =>
   cl (true && ((!x26) == false)) (M_impl_isThreshold fu ((gtD (gtD p0 y6) y19).2.1)) fun x28 =>
   bd ((!x26) || (!x28)) fun x30 =>
   ck (!((true && (x30 == false)) && ((decide ((0 : Int) < y19)) == true)) || i64B (y19 - (1 : Int))) <|
   ck (!((true && (x30 == false)) && ((decide ((0 : Int) < y19)) == true)) || inR (y19 - (1 : Int)) (gtD p0 y6).length) <|
   bd ((decide ((0 : Int) < y19)) && (decide (((gtD (gtD p0 y6) y19).1) ≤ ((gtD (gtD p0 y6) (y19 - (1 : Int))).1)))) fun x34 =>
   bd (x30 || x34) fun x36 =>
   bif x36 then (
    some (Ex.ret false)
   ) else (
    ck (i64B (y19 + (1 : Int))) <|
    M_impl_IsValidRules_L1 fu p0 y6 k (y19 + (1 : Int))
   )
  ) else (
   some (Ex.go ())
  )
def M_impl_IsValidRules_L0 (fu : Nat) (p0 : T_impl_RuleSet) : Nat → Int → Option (Ex Bool Unit)
 | 0, _ => none
 | k + 1, y6 =>
  bif (decide (y6 < (p0.length : Int))) then (
   ck (inR y6 p0.length) <|
   cl true (M_impl_within fu ((gtD p0 y6).length : Int) (1 : Int) (3 : Int)) fun x12 =>
   bif (!x12) then (
    some (Ex.ret false)
   ) else (
    cl true (M_impl_IsValidRules_L1 fu p0 y6 fu (0 : Int)) fun rl16 =>
    exM rl16 (fun r => some (Ex.ret r)) fun s18 =>
    ck (i64B (y6 + (1 : Int))) <|
    M_impl_IsValidRules_L0 fu p0 k (y6 + (1 : Int))
   )
  ) else (
   some (Ex.go ())
  )
def M_impl_IsValidRules (fu : Nat) (p0 : T_impl_RuleSet) : Option Bool :=
 cl true (M_impl_IsValidRules_L0 fu p0 fu (0 : Int)) fun rl3 =>
 exM rl3 (fun r => some r) fun s5 =>
 cl true (M_impl_within fu (p0.length : Int) (1 : Int) (3 : Int)) fun x41 =>
 some x41
theorem M_impl_IsValidRules_ok {fu : Nat} {A0 : Av} {p0 : T_impl_RuleSet} {r : Bool} (hr : M_impl_IsValidRules fu p0 = some r) {w : World} {v0 : Value} (hA : AvOK A0 w) (h0 : Rep E_impl_RuleSet A0 w v0 p0) :
  Calls Tryd.prog 45 #[v0] w fun e w' => ∃ v, e = .returned v ∧ (v = .bool r ∧ Fr w w') := by
 unfold M_impl_IsValidRules at hr
 obtain ⟨w0, hw0⟩ : ∃ w0, w0 = w := ⟨_, rfl⟩
 have hF : Fr w0 w := hw0 ▸ Fr.refl _
 have hA0 : ∀ b o, A0 b o → b < w0.heap.size := fun b o h => hw0 ▸ hA b o h
 have hA00 : AvOK A0 w0 := hA0
 rw [show Fr w = Fr w0 from hw0 ▸ rfl]
 clear hw0
 obtain ⟨A, hAe⟩ : ∃ A, A = A0 := ⟨_, rfl⟩
 have hAA : ∀ b o, A0 b o → A b o := fun b o h => hAe ▸ h
 replace hA : AvOK A w := hAe ▸ hA
 have hO : IniOK [] A w := IniOK.nil
 refine calls_of_HT2 [.tmp 2] Tryd.func45 Tryd.ntmps45 (by decide) rfl rfl (Nat.le_of_ble_eq_true rfl) ?_
 intro R hR
 have f_v0 : Rep E_impl_RuleSet A w v0 p0 := hAe ▸ h0
 replace h0 : R 0 = v0 := hR 0 _ rfl
 clear hR hAe
 refine HT.seq ?_
 refine HT.textR [] (⟨_, true, [], some (.box w0.heap.size 45 E_impl_RuleSet p0), true, fun A => .any⟩ :: ⟨_, true, [], none, true, fun A => .raw (.bool false)⟩ :: []) (by kernel_rfl) (by kernel_rfl) (Wf.mk' (by kernel_rfl) (UAll.cons ust_any (UAll.cons ust_raw (UAll.nil))) (by kernel_rfl) (by kernel_rfl)) hO hA ?_ ?_
 ·exact
   OblsR.cons (OblR.made _ rfl rfl rfl rfl fun A' R' w' ho hd => by have a0 : R' 0 = v0 := (ho.old 0 rfl).trans h0; have ra0 := (f_v0.stp ho.stp).eq a0; exact made_box ra0 (Nat.le_trans hF.size ho.ch.size)) <|
   OblsR.p (fun A' R' w' ho hd => of_assign rfl) <|
   OblsR.nil
 intro done ρ σ A R w hdn hI
 obtain ⟨b1_0, e_b1_0⟩ := hI.boxv hdn 0 rfl rfl
 have h1 : R 1 = (.pointer (some ⟨b1_0, 0, none⟩)) := (hI.opvR hdn 0 0 rfl rfl rfl rfl rfl).symm.trans e_b1_0
 replace hAA := hI.low' hAA hA0 (hO.ge (trivial))
 replace hF : Fr w0 w := hF.tr hI.ch (hO.ge (trivial))
 replace hO : IniOK [ob (.pointer (some ⟨b1_0, 0, none⟩)) (.box w0.heap.size 45 E_impl_RuleSet p0)] A w := hI.left hdn [(0, ob (.pointer (some ⟨b1_0, 0, none⟩)) (.box w0.heap.size 45 E_impl_RuleSet p0))] ⟨rfl, rfl, e_b1_0, rfl, rfl, trivial⟩
 replace hA := hI.avok
 clear hI
 refine HT.seq ?_
 refine HT.seq ?_
 refine HT.text (l := ⟨_, true, .raw (.pointer (some ⟨b1_0, 0, none⟩))⟩ :: ⟨_, true, .rep (eSl E_impl_Rule) A p0⟩ :: ⟨_, true, .raw (.int .i64 (p0.length : Int))⟩ :: ⟨_, true, .raw (.int .i64 (0 : Int))⟩ :: []) (tl := []) (by kernel_rfl) (by kernel_rfl) (by kernel_rfl) ?_ ?_
 ·exact
   Obls.p (fun R' w' hw hs hd => of_fieldAddr_raw ((hs 1 rfl).trans h1) ff_45_0 Tryd.sizeOf43 (by decide) rfl) <|
   Obls.p (fun R' w' hw hs hd => by have a0 : R' 7 = (.pointer (some ⟨b1_0, 0, none⟩)) := hd.g 0 rfl; exact (of_load_box ((hO.fr hw).ok 0 _ rfl).1 a0 fl_impl_RuleSet_0 rfl Tryd.isAgg43 Tryd.sizeOf43)) <|
   Obls.p (fun R' w' hw hs hd => by have a0 : Rep (eSl E_impl_Rule) A w' (R' 8) p0 := hd.g 0 rfl; exact of_len_sl (aT := #[]) a0 Tryd.underlying43) <|
   Obls.p (fun R' w' hw hs hd => of_move rfl) <|
   Obls.nil
 intro R w hw hs hF'
 replace h1 := (hs 1 rfl).trans h1
 obtain ⟨u2, h8, f_u2⟩ : ∃ u, R 8 = u ∧ Rep (eSl E_impl_Rule) A w u p0 := ⟨_, rfl, hF' 1 _ _ rfl rfl rfl⟩
 have h9 : R 9 = .int .i64 (p0.length : Int) := hF' 2 _ _ rfl rfl rfl
 have h10 : R 10 = .int .i64 (0 : Int) := hF' 3 _ _ rfl rfl rfl
 replace hO := hO.fr hw
 replace hA := hA.fr hw.size
 replace hF := hF.trans hw
 clear hs hF' hw
 refine seqR_nil ?_
 obtain ⟨rl3, q4, hr⟩ := cl_some hr
 replace q4 := q4 rfl
 refine HT.cut0 (fun R w => ∃ A : Av, ∃ (s5 : Unit), rl3 = Ex.go s5 ∧ AvOK A w ∧ Fr w0 w ∧ (∀ b o, A0 b o → A b o) ∧ IniOK [ob (.pointer (some ⟨b1_0, 0, none⟩)) (.box w0.heap.size 45 E_impl_RuleSet p0)] A w ∧ R 1 = (.pointer (some ⟨b1_0, 0, none⟩))) ?_ ?_
 ·refine HT.block ?_
  refine HT.loop (fun k R w => ∃ A : Av, ∃ (y6 : Int), M_impl_IsValidRules_L0 fu p0 k y6 = some rl3 ∧ AvOK A w ∧ Fr w0 w ∧ (∀ b o, A0 b o → A b o) ∧ IniOK [ob (.pointer (some ⟨b1_0, 0, none⟩)) (.box w0.heap.size 45 E_impl_RuleSet p0)] A w ∧ R 1 = (.pointer (some ⟨b1_0, 0, none⟩)) ∧ R 8 = u2 ∧ R 9 = .int .i64 (p0.length : Int) ∧ R 10 = .int .i64 y6 ∧ Rep (eSl E_impl_Rule) A w u2 p0) fu ⟨_, _, q4, hA, hF, hAA, hO, h1, h8, h9, h10, f_u2⟩ ?_
  have hr0 := hr; clear hr q4
  rintro k R w ⟨A, y6, hr, hA, hF, hAA, hO, h1, h8, h9, h10, f_u2⟩
  rcases k with _ | k
  ·cases (show none = some _ from hr)
  rw [M_impl_IsValidRules_L0] at hr
  refine HT.seq ?_
  refine HT.text (l := ⟨_, true, .raw (.bool (decide (y6 < (p0.length : Int))))⟩ :: []) (tl := []) (by kernel_rfl) (by kernel_rfl) (by kernel_rfl) ?_ ?_
  ·exact
    Obls.p (fun R' w' hw hs hd => of_lss ((hs 10 rfl).trans h10) ((hs 9 rfl).trans h9)) <|
    Obls.nil
  intro R w hw hs hF'
  replace h1 := (hs 1 rfl).trans h1
  replace h8 := (hs 8 rfl).trans h8
  replace h9 := (hs 9 rfl).trans h9
  replace h10 := (hs 10 rfl).trans h10
  have h11 : R 11 = .bool (decide (y6 < (p0.length : Int))) := hF' 0 _ _ rfl rfl rfl
  replace f_u2 := f_u2.fr hw
  replace hO := hO.fr hw
  replace hA := hA.fr hw.size
  replace hF := hF.trans hw
  clear hs hF' hw
  refine seqR_nil ?_
  refine HT.seq ?_
  refine HT.cond (decide (y6 < (p0.length : Int))) h11 (fun c7 => ?_) (fun c7 => ?_)
  ·have hr := cnd_t c7 hr
   refine HT.skip ?_
   refine HT.seq ?_
   refine HT.block ?_
   refine HT.seq ?_
   obtain ⟨e8, hr⟩ := ck_some hr
   refine HT.textR [ob (.pointer (some ⟨b1_0, 0, none⟩)) (.box w0.heap.size 45 E_impl_RuleSet p0)] (⟨_, true, [], none, true, fun A => .qtr E_impl_Rule A (gtD p0 y6)⟩ :: ⟨_, true, [], none, true, fun A => .rep E_impl_Rule A (gtD p0 y6)⟩ :: ⟨_, true, [], some (.box w0.heap.size 73 E_impl_Rule ([] : List T_impl_Test)), true, fun A => .any⟩ :: ⟨_, true, [3], some (.box w0.heap.size 73 E_impl_Rule (gtD p0 y6)), false, fun A => .any⟩ :: []) (by kernel_rfl) (by kernel_rfl) (Wf.mk' (by kernel_rfl) (UAll.cons ust_qtr (UAll.cons ust_rep (UAll.cons ust_any (UAll.cons ust_any (UAll.nil))))) (by kernel_rfl) (by kernel_rfl)) hO hA ?_ ?_
   ·exact
     OblsR.p (fun A' R' w' ho hd => by have ra0 := (f_u2.stp ho.stp).eq ((ho.old 8 rfl).trans h8); exact of_indexAddr ra0 ((ho.old 10 rfl).trans h10) Tryd.underlying43 Tryd.sizeOf73 e8) <|
     OblsR.p (fun A' R' w' ho hd => by have a0 : QRep E_impl_Rule A' w' (R' 12) (gtD p0 y6) := hd.g 0 rfl; exact (of_load a0.ptr Tryd.isAgg73 Tryd.sizeOf73)) <|
     OblsR.cons (OblR.made _ rfl rfl rfl rfl fun A' R' w' ho hd => by exact made_alloc Tryd.zeroValue73 (fun A w => rep1_nil) (Nat.le_trans hF.size ho.ch.size)) <|
     OblsR.cons (OblR.took 3 _ _ rfl rfl rfl rfl rfl fun A' R' w' ho hd u hok hav hin hop hds => by have a1 : Rep E_impl_Rule A' w' (R' 13) (gtD p0 y6) := hd.g 1 rfl; obtain ⟨b, hb, hB', hbx⟩ := hok; have hop' := hop _ _ rfl rfl rfl rfl; exact took_store a1 (hop'.symm.trans hb) hb ⟨b, hb, hB', hbx⟩ hav (FldS.id _) Tryd.sizeOf73 rfl) <|
     OblsR.nil
   intro done ρ σ A R w hdn hI
   replace h1 : R 1 = (.pointer (some ⟨b1_0, 0, none⟩)) := (hI.reg rfl).trans h1
   replace h8 : R 8 = u2 := (hI.reg rfl).trans h8
   replace h9 : R 9 = .int .i64 (p0.length : Int) := (hI.reg rfl).trans h9
   replace h10 : R 10 = .int .i64 y6 := (hI.reg rfl).trans h10
   have z9 := hI.inivR 0 rfl
   obtain ⟨b4_9, e_b4_9⟩ := hI.boxv hdn 4 rfl rfl
   have z11 := (hI.opnR hdn 4 3 rfl rfl rfl rfl rfl).symm.trans e_b4_9
   have h4 : R 4 = (.pointer (some ⟨b4_9, 0, none⟩)) := (hI.opvR hdn 3 2 rfl rfl rfl rfl rfl).symm.trans z11
   replace f_u2 := f_u2.stp hI.stp
   replace hAA := hI.low' hAA hA0 (hO.ge (⟨rfl, trivial⟩))
   replace hF : Fr w0 w := hF.tr hI.ch (hO.ge (⟨rfl, trivial⟩))
   replace hO : IniOK [ob (.pointer (some ⟨b1_0, 0, none⟩)) (.box w0.heap.size 45 E_impl_RuleSet p0), ob (.pointer (some ⟨b4_9, 0, none⟩)) (.box w0.heap.size 73 E_impl_Rule (gtD p0 y6))] A w := hI.left hdn [(0, ob (.pointer (some ⟨b1_0, 0, none⟩)) (.box w0.heap.size 45 E_impl_RuleSet p0)), (4, ob (.pointer (some ⟨b4_9, 0, none⟩)) (.box w0.heap.size 73 E_impl_Rule (gtD p0 y6)))] ⟨rfl, rfl, z9, rfl, rfl, ⟨rfl, rfl, e_b4_9, rfl, rfl, trivial⟩⟩
   replace hA := hI.avok
   clear hI
   refine HT.seq ?_
   refine HT.seq ?_
   obtain ⟨x12, q13, hr⟩ := cl_some hr
   refine HT.text (l := ⟨_, true, .raw (.pointer (some ⟨b4_9, 0, none⟩))⟩ :: ⟨_, true, .rep (eSl E_impl_Test) A (gtD p0 y6)⟩ :: ⟨_, true, .raw (.int .i64 ((gtD p0 y6).length : Int))⟩ :: ⟨_, true, .raw (.bool x12)⟩ :: ⟨_, true, .raw (.bool (!x12))⟩ :: []) (tl := []) (by kernel_rfl) (by kernel_rfl) (by kernel_rfl) ?_ ?_
   ·exact
     Obls.p (fun R' w' hw hs hd => of_fieldAddr_raw ((hs 4 rfl).trans h4) ff_73_0 Tryd.sizeOf71 (by decide) rfl) <|
     Obls.p (fun R' w' hw hs hd => by have a0 : R' 14 = (.pointer (some ⟨b4_9, 0, none⟩)) := hd.g 0 rfl; exact (of_load_box ((hO.fr hw).ok 1 _ rfl).1 a0 fl_impl_Rule_0 rfl Tryd.isAgg71 Tryd.sizeOf71)) <|
     Obls.p (fun R' w' hw hs hd => by have a0 : Rep (eSl E_impl_Test) A w' (R' 15) (gtD p0 y6) := hd.g 0 rfl; exact of_len_sl (aT := #[]) a0 Tryd.underlying71) <|
     Obls.p (fun R' w' hw hs hd => by have a0 : R' 16 = .int .i64 ((gtD p0 y6).length : Int) := hd.g 0 rfl; exact of_call Tryd.call59 (M_impl_within_ok (q13 rfl) (hA.fr hw.size) a0 rfl rfl)) <|
     Obls.p (fun R' w' hw hs hd => by have a0 : R' 17 = .bool x12 := hd.g 0 rfl; exact of_not a0) <|
     Obls.nil
   intro R w hw hs hF'
   replace h1 := (hs 1 rfl).trans h1
   replace h4 := (hs 4 rfl).trans h4
   replace h8 := (hs 8 rfl).trans h8
   replace h9 := (hs 9 rfl).trans h9
   replace h10 := (hs 10 rfl).trans h10
   have h18 : R 18 = .bool (!x12) := hF' 4 _ _ rfl rfl rfl
   replace f_u2 := f_u2.fr hw
   replace hO := hO.fr hw
   replace hA := hA.fr hw.size
   replace hF := hF.trans hw
   clear hs hF' hw
   refine seqR_nil ?_
   refine HT.cond (!x12) h18 (fun c14 => ?_) (fun c14 => ?_)
   ·have hr := cnd_t c14 hr
    refine HT.seq ?_
    refine HT.text (l := ⟨_, true, .raw (.bool false)⟩ :: []) (tl := []) (by kernel_rfl) (by kernel_rfl) (by kernel_rfl) ?_ ?_
    ·exact
      Obls.p (fun R' w' hw hs hd => of_assign rfl) <|
      Obls.nil
    intro R w hw hs hF'
    have h2 : R 2 = .bool false := hF' 0 _ _ rfl rfl rfl
    replace hO := hO.fr hw
    replace hO : IniOK [] A w := hO.sub [] trivial
    replace hA := hA.fr hw.size
    replace hF := hF.trans hw
    clear hs hF' hw
    refine seqR_nil ?_
    refine HT.ret ?_
    obtain rfl := Option.some.inj hr
    have hr := hr0
    replace hr : some _ = some _ := hr
    obtain rfl := Option.some.inj hr
    exact ⟨.inr rfl, [R 2], ⟨rfl, trivial⟩, h2, hF⟩
   ·have hr := cnd_f c14 hr
    refine HT.skip ?_
    refine HT.seq ?_
    refine HT.text (l := ⟨_, true, .raw (.pointer (some ⟨b4_9, 0, none⟩))⟩ :: ⟨_, true, .rep (eSl E_impl_Test) A (gtD p0 y6)⟩ :: ⟨_, true, .raw (.int .i64 ((gtD p0 y6).length : Int))⟩ :: ⟨_, true, .raw (.int .i64 (0 : Int))⟩ :: []) (tl := []) (by kernel_rfl) (by kernel_rfl) (by kernel_rfl) ?_ ?_
    ·exact
      Obls.p (fun R' w' hw hs hd => of_fieldAddr_raw ((hs 4 rfl).trans h4) ff_73_0 Tryd.sizeOf71 (by decide) rfl) <|
      Obls.p (fun R' w' hw hs hd => by have a0 : R' 19 = (.pointer (some ⟨b4_9, 0, none⟩)) := hd.g 0 rfl; exact (of_load_box ((hO.fr hw).ok 1 _ rfl).1 a0 fl_impl_Rule_0 rfl Tryd.isAgg71 Tryd.sizeOf71)) <|
      Obls.p (fun R' w' hw hs hd => by have a0 : Rep (eSl E_impl_Test) A w' (R' 20) (gtD p0 y6) := hd.g 0 rfl; exact of_len_sl (aT := #[]) a0 Tryd.underlying71) <|
      Obls.p (fun R' w' hw hs hd => of_move rfl) <|
      Obls.nil
    intro R w hw hs hF'
    replace h1 := (hs 1 rfl).trans h1
    replace h4 := (hs 4 rfl).trans h4
    replace h8 := (hs 8 rfl).trans h8
    replace h9 := (hs 9 rfl).trans h9
    replace h10 := (hs 10 rfl).trans h10
    obtain ⟨u15, h20, f_u15⟩ : ∃ u, R 20 = u ∧ Rep (eSl E_impl_Test) A w u (gtD p0 y6) := ⟨_, rfl, hF' 1 _ _ rfl rfl rfl⟩
    have h21 : R 21 = .int .i64 ((gtD p0 y6).length : Int) := hF' 2 _ _ rfl rfl rfl
    have h22 : R 22 = .int .i64 (0 : Int) := hF' 3 _ _ rfl rfl rfl
    replace f_u2 := f_u2.fr hw
    replace hO := hO.fr hw
    replace hA := hA.fr hw.size
    replace hF := hF.trans hw
    clear hs hF' hw
    refine seqR_nil ?_
    obtain ⟨rl16, q17, hr⟩ := cl_some hr
    replace q17 := q17 rfl
    refine HT.cut0 (fun R w => ∃ A : Av, ∃ (s18 : Unit), rl16 = Ex.go s18 ∧ AvOK A w ∧ Fr w0 w ∧ (∀ b o, A0 b o → A b o) ∧ IniOK [ob (.pointer (some ⟨b1_0, 0, none⟩)) (.box w0.heap.size 45 E_impl_RuleSet p0)] A w ∧ R 1 = (.pointer (some ⟨b1_0, 0, none⟩)) ∧ R 8 = u2 ∧ R 9 = .int .i64 (p0.length : Int) ∧ R 10 = .int .i64 y6 ∧ Rep (eSl E_impl_Rule) A w u2 p0) ?_ ?_
    ·refine HT.block ?_
     refine HT.loop (fun k R w => ∃ A : Av, ∃ (y19 : Int), M_impl_IsValidRules_L1 fu p0 y6 k y19 = some rl16 ∧ AvOK A w ∧ Fr w0 w ∧ (∀ b o, A0 b o → A b o) ∧ IniOK [ob (.pointer (some ⟨b1_0, 0, none⟩)) (.box w0.heap.size 45 E_impl_RuleSet p0), ob (.pointer (some ⟨b4_9, 0, none⟩)) (.box w0.heap.size 73 E_impl_Rule (gtD p0 y6))] A w ∧ R 1 = (.pointer (some ⟨b1_0, 0, none⟩)) ∧ R 4 = (.pointer (some ⟨b4_9, 0, none⟩)) ∧ R 8 = u2 ∧ R 9 = .int .i64 (p0.length : Int) ∧ R 10 = .int .i64 y6 ∧ R 20 = u15 ∧ R 21 = .int .i64 ((gtD p0 y6).length : Int) ∧ R 22 = .int .i64 y19 ∧ Rep (eSl E_impl_Test) A w u15 (gtD p0 y6) ∧ Rep (eSl E_impl_Rule) A w u2 p0) fu ⟨_, _, q17, hA, hF, hAA, hO, h1, h4, h8, h9, h10, h20, h21, h22, f_u15, f_u2⟩ ?_
     have hr1 := hr; clear hr q17
     rintro k R w ⟨A, y19, hr, hA, hF, hAA, hO, h1, h4, h8, h9, h10, h20, h21, h22, f_u15, f_u2⟩
     rcases k with _ | k
     ·cases (show none = some _ from hr)
     rw [M_impl_IsValidRules_L1] at hr
     refine HT.seq ?_
     refine HT.text (l := ⟨_, true, .raw (.bool (decide (y19 < ((gtD p0 y6).length : Int))))⟩ :: []) (tl := []) (by kernel_rfl) (by kernel_rfl) (by kernel_rfl) ?_ ?_
     ·exact
       Obls.p (fun R' w' hw hs hd => of_lss ((hs 22 rfl).trans h22) ((hs 21 rfl).trans h21)) <|
       Obls.nil
     intro R w hw hs hF'
     replace h1 := (hs 1 rfl).trans h1
     replace h4 := (hs 4 rfl).trans h4
     replace h8 := (hs 8 rfl).trans h8
     replace h9 := (hs 9 rfl).trans h9
     replace h10 := (hs 10 rfl).trans h10
     replace h20 := (hs 20 rfl).trans h20
     replace h21 := (hs 21 rfl).trans h21
     replace h22 := (hs 22 rfl).trans h22
     have h23 : R 23 = .bool (decide (y19 < ((gtD p0 y6).length : Int))) := hF' 0 _ _ rfl rfl rfl
     replace f_u15 := f_u15.fr hw
     replace f_u2 := f_u2.fr hw
     replace hO := hO.fr hw
     replace hA := hA.fr hw.size
     replace hF := hF.trans hw
     clear hs hF' hw
     refine seqR_nil ?_
     refine HT.seq ?_
     refine HT.cond (decide (y19 < ((gtD p0 y6).length : Int))) h23 (fun c20 => ?_) (fun c20 => ?_)
     ·have hr := cnd_t c20 hr
      refine HT.skip ?_
      refine HT.seq ?_
      refine HT.block ?_
      refine HT.seq ?_
      obtain ⟨e21, hr⟩ := ck_some hr
      refine HT.textR [ob (.pointer (some ⟨b1_0, 0, none⟩)) (.box w0.heap.size 45 E_impl_RuleSet p0), ob (.pointer (some ⟨b4_9, 0, none⟩)) (.box w0.heap.size 73 E_impl_Rule (gtD p0 y6))] (⟨_, true, [], none, true, fun A => .raw (.int .i64 y19)⟩ :: ⟨_, true, [], none, true, fun A => .qtr E_impl_Test A (gtD (gtD p0 y6) y19)⟩ :: ⟨_, true, [], none, true, fun A => .rep E_impl_Test A (gtD (gtD p0 y6) y19)⟩ :: ⟨_, true, [], some (.box w0.heap.size 67 E_impl_Test ((0 : Int), ((0 : Int), false))), true, fun A => .any⟩ :: ⟨_, true, [], none, true, fun A => .raw (.int .i64 y19)⟩ :: ⟨_, true, [5], some (.box w0.heap.size 67 E_impl_Test (gtD (gtD p0 y6) y19)), false, fun A => .any⟩ :: []) (by kernel_rfl) (by kernel_rfl) (Wf.mk' (by kernel_rfl) (UAll.cons ust_raw (UAll.cons ust_qtr (UAll.cons ust_rep (UAll.cons ust_any (UAll.cons ust_raw (UAll.cons ust_any (UAll.nil))))))) (by kernel_rfl) (by kernel_rfl)) hO hA ?_ ?_
      ·exact
        OblsR.p (fun A' R' w' ho hd => of_move ((ho.old 22 rfl).trans h22)) <|
        OblsR.p (fun A' R' w' ho hd => by have ra0 := (f_u15.stp ho.stp).eq ((ho.old 20 rfl).trans h20); exact of_indexAddr ra0 ((ho.old 22 rfl).trans h22) Tryd.underlying71 Tryd.sizeOf67 e21) <|
        OblsR.p (fun A' R' w' ho hd => by have a0 : QRep E_impl_Test A' w' (R' 25) (gtD (gtD p0 y6) y19) := hd.g 0 rfl; exact (of_load a0.ptr Tryd.isAgg67 Tryd.sizeOf67)) <|
        OblsR.cons (OblR.made _ rfl rfl rfl rfl fun A' R' w' ho hd => by exact made_alloc Tryd.zeroValue67 (fun A w => rep_pr rep1_int (rep_pr rep1_int rep1_bool)) (Nat.le_trans hF.size ho.ch.size)) <|
        OblsR.p (fun A' R' w' ho hd => by have a0 : R' 24 = .int .i64 y19 := hd.g 0 rfl; exact of_assign a0) <|
        OblsR.cons (OblR.took 5 _ _ rfl rfl rfl rfl rfl fun A' R' w' ho hd u hok hav hin hop hds => by have a1 : Rep E_impl_Test A' w' (R' 26) (gtD (gtD p0 y6) y19) := hd.g 1 rfl; obtain ⟨b, hb, hB', hbx⟩ := hok; have hop' := hop _ _ rfl rfl rfl rfl; exact took_store a1 (hop'.symm.trans hb) hb ⟨b, hb, hB', hbx⟩ hav (FldS.id _) Tryd.sizeOf67 rfl) <|
        OblsR.nil
      intro done ρ σ A R w hdn hI
      replace h1 : R 1 = (.pointer (some ⟨b1_0, 0, none⟩)) := (hI.reg rfl).trans h1
      replace h4 : R 4 = (.pointer (some ⟨b4_9, 0, none⟩)) := (hI.reg rfl).trans h4
      replace h8 : R 8 = u2 := (hI.reg rfl).trans h8
      replace h9 : R 9 = .int .i64 (p0.length : Int) := (hI.reg rfl).trans h9
      replace h10 : R 10 = .int .i64 y6 := (hI.reg rfl).trans h10
      replace h20 : R 20 = u15 := (hI.reg rfl).trans h20
      replace h21 : R 21 = .int .i64 ((gtD p0 y6).length : Int) := (hI.reg rfl).trans h21
      replace h22 : R 22 = .int .i64 y19 := (hI.reg rfl).trans h22
      have z22 := hI.inivR 0 rfl
      have z23 := hI.inivR 1 rfl
      obtain ⟨b6_23, e_b6_23⟩ := hI.boxv hdn 7 rfl rfl
      have z25 := (hI.opnR hdn 7 5 rfl rfl rfl rfl rfl).symm.trans e_b6_23
      have h6 : R 6 = (.pointer (some ⟨b6_23, 0, none⟩)) := (hI.opvR hdn 5 3 rfl rfl rfl rfl rfl).symm.trans z25
      have h5 : R 5 = .int .i64 y19 := hI.fact hdn (i := 4) rfl rfl rfl
      replace f_u15 := f_u15.stp hI.stp
      replace f_u2 := f_u2.stp hI.stp
      replace hAA := hI.low' hAA hA0 (hO.ge (⟨rfl, ⟨rfl, trivial⟩⟩))
      replace hF : Fr w0 w := hF.tr hI.ch (hO.ge (⟨rfl, ⟨rfl, trivial⟩⟩))
      replace hO : IniOK [ob (.pointer (some ⟨b1_0, 0, none⟩)) (.box w0.heap.size 45 E_impl_RuleSet p0), ob (.pointer (some ⟨b4_9, 0, none⟩)) (.box w0.heap.size 73 E_impl_Rule (gtD p0 y6)), ob (.pointer (some ⟨b6_23, 0, none⟩)) (.box w0.heap.size 67 E_impl_Test (gtD (gtD p0 y6) y19))] A w := hI.left hdn [(0, ob (.pointer (some ⟨b1_0, 0, none⟩)) (.box w0.heap.size 45 E_impl_RuleSet p0)), (1, ob (.pointer (some ⟨b4_9, 0, none⟩)) (.box w0.heap.size 73 E_impl_Rule (gtD p0 y6))), (7, ob (.pointer (some ⟨b6_23, 0, none⟩)) (.box w0.heap.size 67 E_impl_Test (gtD (gtD p0 y6) y19)))] ⟨rfl, rfl, z22, rfl, rfl, ⟨rfl, rfl, z23, rfl, rfl, ⟨rfl, rfl, e_b6_23, rfl, rfl, trivial⟩⟩⟩
      replace hA := hI.avok
      clear hI
      refine HT.seq ?_
      obtain ⟨x26, q27, hr⟩ := cl_some hr
      obtain ⟨x28, q29, hr⟩ := cl_some hr
      obtain ⟨x30, q31, hr⟩ := bd_some hr
      obtain ⟨e32, hr⟩ := ck_some hr
      obtain ⟨e33, hr⟩ := ck_some hr
      obtain ⟨x34, q35, hr⟩ := bd_some hr
      obtain ⟨x36, q37, hr⟩ := bd_some hr
      refine HT.draw (by kernel_rfl) (l := ⟨_, true, .raw (.pointer (some ⟨b6_23, 0, none⟩))⟩ :: ⟨_, true, .raw (.int .i64 ((gtD (gtD p0 y6) y19).1))⟩ :: ⟨_, true, .raw (.bool x26)⟩ :: ⟨_, true, .raw (.bool (!x26))⟩ :: ⟨_, true, .raw (.bool (!x26))⟩ :: ⟨_, (true && ((!x26) == false)), .raw (.pointer (some ⟨b6_23, 1, none⟩))⟩ :: ⟨_, (true && ((!x26) == false)), .raw (.int .i64 ((gtD (gtD p0 y6) y19).2.1))⟩ :: ⟨_, (true && ((!x26) == false)), .raw (.bool x28)⟩ :: ⟨_, (true && ((!x26) == false)), .raw (.bool (!x28))⟩ :: ⟨_, true, .raw (.bool x30)⟩ :: ⟨_, true, .raw (.bool x30)⟩ :: ⟨_, (true && (x30 == false)), .raw (.int .i64 y19)⟩ :: ⟨_, (true && (x30 == false)), .raw (.bool (decide ((0 : Int) < y19)))⟩ :: ⟨_, (true && (x30 == false)), .raw (.bool (decide ((0 : Int) < y19)))⟩ :: ⟨_, ((true && (x30 == false)) && ((decide ((0 : Int) < y19)) == true)), .raw (.pointer (some ⟨b4_9, 0, none⟩))⟩ :: ⟨_, ((true && (x30 == false)) && ((decide ((0 : Int) < y19)) == true)), .rep (eSl E_impl_Test) A (gtD p0 y6)⟩ :: ⟨_, ((true && (x30 == false)) && ((decide ((0 : Int) < y19)) == true)), .raw (.int .i64 y19)⟩ :: ⟨_, ((true && (x30 == false)) && ((decide ((0 : Int) < y19)) == true)), .raw (.int .i64 (y19 - (1 : Int)))⟩ :: ⟨_, ((true && (x30 == false)) && ((decide ((0 : Int) < y19)) == true)), .qtr E_impl_Test A (gtD (gtD p0 y6) (y19 - (1 : Int)))⟩ :: ⟨_, ((true && (x30 == false)) && ((decide ((0 : Int) < y19)) == true)), .qtr (eInt .i64) A ((gtD (gtD p0 y6) (y19 - (1 : Int))).1)⟩ :: ⟨_, ((true && (x30 == false)) && ((decide ((0 : Int) < y19)) == true)), .raw (.int .i64 ((gtD (gtD p0 y6) (y19 - (1 : Int))).1))⟩ :: ⟨_, ((true && (x30 == false)) && ((decide ((0 : Int) < y19)) == true)), .raw (.pointer (some ⟨b6_23, 0, none⟩))⟩ :: ⟨_, ((true && (x30 == false)) && ((decide ((0 : Int) < y19)) == true)), .raw (.int .i64 ((gtD (gtD p0 y6) y19).1))⟩ :: ⟨_, ((true && (x30 == false)) && ((decide ((0 : Int) < y19)) == true)), .raw (.bool (decide (((gtD (gtD p0 y6) y19).1) ≤ ((gtD (gtD p0 y6) (y19 - (1 : Int))).1))))⟩ :: ⟨_, (true && (x30 == false)), .raw (.bool x34)⟩ :: ⟨_, true, .raw (.bool x36)⟩ :: []) (tl := []) (by kernel_rfl) (by kernel_rfl) (by kernel_rfl) (by kernel_rfl) ?_ ?_
      ·exact
        Obls.p (fun R' w' hw hs hd => of_fieldAddr_raw ((hs 6 rfl).trans h6) ff_67_0 Tryd.sizeOf3 (by decide) rfl) <|
        Obls.p (fun R' w' hw hs hd => by have a0 : R' 27 = (.pointer (some ⟨b6_23, 0, none⟩)) := hd.g 0 rfl; exact OpF.int (of_load_box ((hO.fr hw).ok 2 _ rfl).1 a0 fl_impl_Test_0 rfl Tryd.isAgg3 Tryd.sizeOf3)) <|
        Obls.p (fun R' w' hw hs hd => by have a0 : R' 28 = .int .i64 ((gtD (gtD p0 y6) y19).1) := hd.g 0 rfl; exact of_call Tryd.call66 (M_impl_isFeature_ok (q27 rfl) (hA.fr hw.size) a0)) <|
        Obls.p (fun R' w' hw hs hd => by have a0 : R' 29 = .bool x26 := hd.g 0 rfl; exact of_not a0) <|
        Obls.p (fun R' w' hw hs hd => by have a0 : R' 30 = .bool (!x26) := hd.g 0 rfl; exact of_move a0) <|
        Obls.cons (Obl.grd 4 false _ _ _ rfl rfl rfl rfl rfl (by kernel_rfl) fun hg R' w' hw hs hd => by have a0 : R' 6 = (.pointer (some ⟨b6_23, 0, none⟩)) := (hs 6 rfl).trans h6; exact of_fieldAddr_raw a0 ff_67_1 Tryd.sizeOf3 (by decide) rfl) <|
        Obls.cons (Obl.grd 4 false _ _ _ rfl rfl rfl rfl rfl (by kernel_rfl) fun hg R' w' hw hs hd => by have a0 : R' 32 = (.pointer (some ⟨b6_23, 1, none⟩)) := hd 0 _ _ _ rfl rfl rfl rfl hg; exact OpF.int (of_load_box ((hO.fr hw).ok 2 _ rfl).1 a0 fl_impl_Test_1 rfl Tryd.isAgg3 Tryd.sizeOf3)) <|
        Obls.cons (Obl.grd 4 false _ _ _ rfl rfl rfl rfl rfl (by kernel_rfl) fun hg R' w' hw hs hd => by have a0 : R' 33 = .int .i64 ((gtD (gtD p0 y6) y19).2.1) := hd 0 _ _ _ rfl rfl rfl rfl hg; exact of_call Tryd.call67 (M_impl_isThreshold_ok (q29 hg) (hA.fr hw.size) a0)) <|
        Obls.cons (Obl.grd 4 false _ _ _ rfl rfl rfl rfl rfl (by kernel_rfl) fun hg R' w' hw hs hd => by have a0 : R' 34 = .bool x28 := hd 0 _ _ _ rfl rfl rfl rfl hg; exact of_not a0) <|
        Obls.p (fun R' w' hw hs hd => by have a0 : R' 31 = .bool (!x26) := hd.g 0 rfl; exact of_pick (!x26) a0 (fun hc => by show _ = Value.bool x30; rw [q31, hc]; exact rfl) (fun hc => by have a2 : R' 35 = .bool (!x28) := hd 1 _ _ _ rfl rfl rfl rfl (g_and rfl (beq_of hc)); show _ = Value.bool x30; rw [q31, hc]; exact a2)) <|
        Obls.p (fun R' w' hw hs hd => by have a0 : R' 36 = .bool x30 := hd.g 0 rfl; exact of_move a0) <|
        Obls.cons (Obl.grd 10 false _ _ _ rfl rfl rfl rfl rfl (by kernel_rfl) fun hg R' w' hw hs hd => by have a0 : R' 5 = .int .i64 y19 := (hs 5 rfl).trans h5; exact of_move a0) <|
        Obls.cons (Obl.grd 10 false _ _ _ rfl rfl rfl rfl rfl (by kernel_rfl) fun hg R' w' hw hs hd => by have a0 : R' 38 = .int .i64 y19 := hd 0 _ _ _ rfl rfl rfl rfl hg; exact of_gtr a0 rfl) <|
        Obls.cons (Obl.grd 10 false _ _ _ rfl rfl rfl rfl rfl (by kernel_rfl) fun hg R' w' hw hs hd => by have a0 : R' 39 = .bool (decide ((0 : Int) < y19)) := hd 0 _ _ _ rfl rfl rfl rfl hg; exact of_move a0) <|
        Obls.cons (Obl.grd 13 true _ _ _ rfl rfl rfl rfl rfl (by kernel_rfl) fun hg R' w' hw hs hd => by have a0 : R' 4 = (.pointer (some ⟨b4_9, 0, none⟩)) := (hs 4 rfl).trans h4; exact of_fieldAddr_raw a0 ff_73_0 Tryd.sizeOf71 (by decide) rfl) <|
        Obls.cons (Obl.grd 13 true _ _ _ rfl rfl rfl rfl rfl (by kernel_rfl) fun hg R' w' hw hs hd => by have a0 : R' 41 = (.pointer (some ⟨b4_9, 0, none⟩)) := hd 0 _ _ _ rfl rfl rfl rfl hg; exact (of_load_box ((hO.fr hw).ok 1 _ rfl).1 a0 fl_impl_Rule_0 rfl Tryd.isAgg71 Tryd.sizeOf71)) <|
        Obls.cons (Obl.grd 13 true _ _ _ rfl rfl rfl rfl rfl (by kernel_rfl) fun hg R' w' hw hs hd => by have a0 : R' 5 = .int .i64 y19 := (hs 5 rfl).trans h5; exact of_move a0) <|
        Obls.cons (Obl.grd 13 true _ _ _ rfl rfl rfl rfl rfl (by kernel_rfl) fun hg R' w' hw hs hd => by have a0 : R' 43 = .int .i64 y19 := hd 0 _ _ _ rfl rfl rfl rfl hg; exact of_sub a0 rfl (gd e32 hg)) <|
        Obls.cons (Obl.grd 13 true _ _ _ rfl rfl rfl rfl rfl (by kernel_rfl) fun hg R' w' hw hs hd => by have a0 : Rep (eSl E_impl_Test) A w' (R' 42) (gtD p0 y6) := hd 0 _ _ _ rfl rfl rfl rfl hg; have a1 : R' 44 = .int .i64 (y19 - (1 : Int)) := hd 1 _ _ _ rfl rfl rfl rfl hg; exact of_indexAddr a0 a1 Tryd.underlying71 Tryd.sizeOf67 (gd e33 hg)) <|
        Obls.cons (Obl.grd 13 true _ _ _ rfl rfl rfl rfl rfl (by kernel_rfl) fun hg R' w' hw hs hd => by have a0 : QRep E_impl_Test A w' (R' 45) (gtD (gtD p0 y6) (y19 - (1 : Int))) := hd 0 _ _ _ rfl rfl rfl rfl hg; exact of_fieldAddr_q a0 ff_67_0 Tryd.sizeOf3 (by decide) fl_impl_Test_0 rfl) <|
        Obls.cons (Obl.grd 13 true _ _ _ rfl rfl rfl rfl rfl (by kernel_rfl) fun hg R' w' hw hs hd => by have a0 : QRep (eInt .i64) A w' (R' 46) ((gtD (gtD p0 y6) (y19 - (1 : Int))).1) := hd 0 _ _ _ rfl rfl rfl rfl hg; exact OpF.int (of_load a0.ptr Tryd.isAgg3 Tryd.sizeOf3)) <|
        Obls.cons (Obl.grd 13 true _ _ _ rfl rfl rfl rfl rfl (by kernel_rfl) fun hg R' w' hw hs hd => by have a0 : R' 6 = (.pointer (some ⟨b6_23, 0, none⟩)) := (hs 6 rfl).trans h6; exact of_fieldAddr_raw a0 ff_67_0 Tryd.sizeOf3 (by decide) rfl) <|
        Obls.cons (Obl.grd 13 true _ _ _ rfl rfl rfl rfl rfl (by kernel_rfl) fun hg R' w' hw hs hd => by have a0 : R' 48 = (.pointer (some ⟨b6_23, 0, none⟩)) := hd 0 _ _ _ rfl rfl rfl rfl hg; exact OpF.int (of_load_box ((hO.fr hw).ok 2 _ rfl).1 a0 fl_impl_Test_0 rfl Tryd.isAgg3 Tryd.sizeOf3)) <|
        Obls.cons (Obl.grd 13 true _ _ _ rfl rfl rfl rfl rfl (by kernel_rfl) fun hg R' w' hw hs hd => by have a0 : R' 47 = .int .i64 ((gtD (gtD p0 y6) (y19 - (1 : Int))).1) := hd 0 _ _ _ rfl rfl rfl rfl hg; have a1 : R' 49 = .int .i64 ((gtD (gtD p0 y6) y19).1) := hd 1 _ _ _ rfl rfl rfl rfl hg; exact of_geq a0 a1) <|
        Obls.cons (Obl.grd 10 false _ _ _ rfl rfl rfl rfl rfl (by kernel_rfl) fun hg R' w' hw hs hd => by have a0 : R' 40 = .bool (decide ((0 : Int) < y19)) := hd 0 _ _ _ rfl rfl rfl rfl hg; exact of_pick (decide ((0 : Int) < y19)) a0 (fun hc => by have a1 : R' 50 = .bool (decide (((gtD (gtD p0 y6) y19).1) ≤ ((gtD (gtD p0 y6) (y19 - (1 : Int))).1))) := hd 1 _ _ _ rfl rfl rfl rfl (g_and hg (beq_of hc)); show _ = Value.bool x34; rw [q35, hc]; exact a1) (fun hc => by show _ = Value.bool x34; rw [q35, hc]; exact rfl)) <|
        Obls.p (fun R' w' hw hs hd => by have a0 : R' 37 = .bool x30 := hd.g 0 rfl; exact of_pick x30 a0 (fun hc => by show _ = Value.bool x36; rw [q37, hc]; exact rfl) (fun hc => by have a2 : R' 51 = .bool x34 := hd 1 _ _ _ rfl rfl rfl rfl (g_and rfl (beq_of hc)); show _ = Value.bool x36; rw [q37, hc]; exact a2)) <|
        Obls.nil
      intro R w hw hs hF'
      replace h1 := (hs 1 rfl).trans h1
      replace h4 := (hs 4 rfl).trans h4
      replace h8 := (hs 8 rfl).trans h8
      replace h9 := (hs 9 rfl).trans h9
      replace h10 := (hs 10 rfl).trans h10
      replace h20 := (hs 20 rfl).trans h20
      replace h21 := (hs 21 rfl).trans h21
      replace h22 := (hs 22 rfl).trans h22
      have h52 : R 52 = .bool x36 := hF' 25 _ _ rfl rfl rfl
      replace f_u15 := f_u15.fr hw
      replace f_u2 := f_u2.fr hw
      replace hO := hO.fr hw
      replace hO : IniOK [ob (.pointer (some ⟨b1_0, 0, none⟩)) (.box w0.heap.size 45 E_impl_RuleSet p0), ob (.pointer (some ⟨b4_9, 0, none⟩)) (.box w0.heap.size 73 E_impl_Rule (gtD p0 y6))] A w := hO.sub [(0, ob (.pointer (some ⟨b1_0, 0, none⟩)) (.box w0.heap.size 45 E_impl_RuleSet p0)), (1, ob (.pointer (some ⟨b4_9, 0, none⟩)) (.box w0.heap.size 73 E_impl_Rule (gtD p0 y6)))] ⟨rfl, rfl, ⟨rfl, rfl, trivial⟩⟩
      replace hA := hA.fr hw.size
      replace hF := hF.trans hw
      clear hs hF' hw
      refine seqR_nil ?_
      refine HT.cond x36 h52 (fun c38 => ?_) (fun c38 => ?_)
      ·have hr := cnd_t c38 hr
       refine HT.seq ?_
       refine HT.text (l := ⟨_, true, .raw (.bool false)⟩ :: []) (tl := []) (by kernel_rfl) (by kernel_rfl) (by kernel_rfl) ?_ ?_
       ·exact
         Obls.p (fun R' w' hw hs hd => of_assign rfl) <|
         Obls.nil
       intro R w hw hs hF'
       have h2 : R 2 = .bool false := hF' 0 _ _ rfl rfl rfl
       replace hO := hO.fr hw
       replace hO : IniOK [] A w := hO.sub [] trivial
       replace hA := hA.fr hw.size
       replace hF := hF.trans hw
       clear hs hF' hw
       refine seqR_nil ?_
       refine HT.ret ?_
       obtain rfl := Option.some.inj hr
       have hr := hr1
       replace hr : some _ = some _ := hr
       obtain rfl := Option.some.inj hr
       have hr := hr0
       replace hr : some _ = some _ := hr
       obtain rfl := Option.some.inj hr
       exact ⟨.inr rfl, [R 2], ⟨rfl, trivial⟩, h2, hF⟩
      ·have hr := cnd_f c38 hr
       refine HT.skip ?_
       obtain ⟨e39, hr⟩ := ck_some hr
       refine HT.text (l := ⟨_, true, .raw (.int .i64 (y19 + (1 : Int)))⟩ :: ⟨_, true, .raw (.int .i64 (y19 + (1 : Int)))⟩ :: []) (tl := []) (by kernel_rfl) (by kernel_rfl) (by kernel_rfl) ?_ ?_
       ·exact
         Obls.p (fun R' w' hw hs hd => of_add ((hs 22 rfl).trans h22) rfl e39) <|
         Obls.p (fun R' w' hw hs hd => by have a0 : R' 53 = .int .i64 (y19 + (1 : Int)) := hd.g 0 rfl; exact of_move a0) <|
         Obls.nil
       intro R w hw hs hF'
       replace h1 := (hs 1 rfl).trans h1
       replace h4 := (hs 4 rfl).trans h4
       replace h8 := (hs 8 rfl).trans h8
       replace h9 := (hs 9 rfl).trans h9
       replace h10 := (hs 10 rfl).trans h10
       replace h20 := (hs 20 rfl).trans h20
       replace h21 := (hs 21 rfl).trans h21
       have h22 : R 22 = .int .i64 (y19 + (1 : Int)) := hF' 1 _ _ rfl rfl rfl
       replace f_u15 := f_u15.fr hw
       replace f_u2 := f_u2.fr hw
       replace hO := hO.fr hw
       replace hA := hA.fr hw.size
       replace hF := hF.trans hw
       clear hs hF' hw
       refine seqR_nil ?_
       exact Exists.intro k (And.intro (Nat.lt_succ_self k) ⟨_, _, hr, hA, hF, hAA, hO, h1, h4, h8, h9, h10, h20, h21, h22, f_u15, f_u2⟩)
     ·have hr := cnd_f c20 hr
      refine HT.exit ?_
      obtain rfl := Option.some.inj hr
      replace hO : IniOK [ob (.pointer (some ⟨b1_0, 0, none⟩)) (.box w0.heap.size 45 E_impl_RuleSet p0)] A w := hO.sub [(0, ob (.pointer (some ⟨b1_0, 0, none⟩)) (.box w0.heap.size 45 E_impl_RuleSet p0))] ⟨rfl, rfl, trivial⟩
      exact Exists.intro _ ⟨_, rfl, hA, hF, hAA, hO, h1, h8, h9, h10, f_u2⟩
    rintro R w ⟨A, s18, rfl, hA, hF, hAA, hO, h1, h8, h9, h10, f_u2⟩
    have hr := exM_go hr
    obtain ⟨e40, hr⟩ := ck_some hr
    refine HT.text (l := ⟨_, true, .raw (.int .i64 (y6 + (1 : Int)))⟩ :: ⟨_, true, .raw (.int .i64 (y6 + (1 : Int)))⟩ :: []) (tl := []) (by kernel_rfl) (by kernel_rfl) (by kernel_rfl) ?_ ?_
    ·exact
      Obls.p (fun R' w' hw hs hd => of_add ((hs 10 rfl).trans h10) rfl e40) <|
      Obls.p (fun R' w' hw hs hd => by have a0 : R' 54 = .int .i64 (y6 + (1 : Int)) := hd.g 0 rfl; exact of_move a0) <|
      Obls.nil
    intro R w hw hs hF'
    replace h1 := (hs 1 rfl).trans h1
    replace h8 := (hs 8 rfl).trans h8
    replace h9 := (hs 9 rfl).trans h9
    have h10 : R 10 = .int .i64 (y6 + (1 : Int)) := hF' 1 _ _ rfl rfl rfl
    replace f_u2 := f_u2.fr hw
    replace hO := hO.fr hw
    replace hA := hA.fr hw.size
    replace hF := hF.trans hw
    clear hs hF' hw
    refine seqR_nil ?_
    exact Exists.intro k (And.intro (Nat.lt_succ_self k) ⟨_, _, hr, hA, hF, hAA, hO, h1, h8, h9, h10, f_u2⟩)
  ·have hr := cnd_f c7 hr
   refine HT.exit ?_
   obtain rfl := Option.some.inj hr
   exact Exists.intro _ ⟨_, rfl, hA, hF, hAA, hO, h1⟩
 rintro R w ⟨A, s5, rfl, hA, hF, hAA, hO, h1⟩
 have hr := exM_go hr
 refine HT.seq ?_
 obtain ⟨x41, q42, hr⟩ := cl_some hr
 refine HT.text (l := ⟨_, true, .raw (.pointer (some ⟨b1_0, 0, none⟩))⟩ :: ⟨_, true, .rep (eSl E_impl_Rule) A p0⟩ :: ⟨_, true, .raw (.int .i64 (p0.length : Int))⟩ :: ⟨_, true, .raw (.bool x41)⟩ :: ⟨_, true, .raw (.bool x41)⟩ :: []) (tl := []) (by kernel_rfl) (by kernel_rfl) (by kernel_rfl) ?_ ?_
 ·exact
   Obls.p (fun R' w' hw hs hd => of_fieldAddr_raw ((hs 1 rfl).trans h1) ff_45_0 Tryd.sizeOf43 (by decide) rfl) <|
   Obls.p (fun R' w' hw hs hd => by have a0 : R' 55 = (.pointer (some ⟨b1_0, 0, none⟩)) := hd.g 0 rfl; exact (of_load_box ((hO.fr hw).ok 0 _ rfl).1 a0 fl_impl_RuleSet_0 rfl Tryd.isAgg43 Tryd.sizeOf43)) <|
   Obls.p (fun R' w' hw hs hd => by have a0 : Rep (eSl E_impl_Rule) A w' (R' 56) p0 := hd.g 0 rfl; exact of_len_sl (aT := #[]) a0 Tryd.underlying43) <|
   Obls.p (fun R' w' hw hs hd => by have a0 : R' 57 = .int .i64 (p0.length : Int) := hd.g 0 rfl; exact of_call Tryd.call59 (M_impl_within_ok (q42 rfl) (hA.fr hw.size) a0 rfl rfl)) <|
   Obls.p (fun R' w' hw hs hd => by have a0 : R' 58 = .bool x41 := hd.g 0 rfl; exact of_assign a0) <|
   Obls.nil
 intro R w hw hs hF'
 have h2 : R 2 = .bool x41 := hF' 4 _ _ rfl rfl rfl
 replace hO := hO.fr hw
 replace hO : IniOK [] A w := hO.sub [] trivial
 replace hA := hA.fr hw.size
 replace hF := hF.trans hw
 clear hs hF' hw
 refine seqR_nil ?_
 refine HT.ret ?_
 obtain rfl := Option.some.inj hr
 exact ⟨.inr rfl, [R 2], ⟨rfl, trivial⟩, h2, hF⟩
def M_impl_FormatInt (fu : Nat) (p0 : Int) : Option (List UInt8) :=
 cl true (M_itoa fu p0) fun x1 =>
 some x1
theorem M_impl_FormatInt_ok {fu : Nat} {A : Av} {p0 : Int} {r : List UInt8} (hr : M_impl_FormatInt fu p0 = some r) {w : World} {v0 : Value} (hA : AvOK A w) (hG : GTab w) (h0 : v0 = .int .i64 p0) :
  Calls Tryd.prog 34 #[v0] w fun e w' => ∃ v, e = .returned v ∧ (Rep eStr A w' v r ∧ Fr w w') := by
 unfold M_impl_FormatInt at hr
 obtain ⟨w0, hw0⟩ : ∃ w0, w0 = w := ⟨_, rfl⟩
 have hF : Fr w0 w := hw0 ▸ Fr.refl _
 rw [show Fr w = Fr w0 from hw0 ▸ rfl]
 have hG0 : GTab w0 := hw0 ▸ hG
 clear hw0
 refine calls_of_HT2 [.tmp 2] Tryd.func34 Tryd.ntmps34 (by decide) rfl rfl (Nat.le_of_ble_eq_true rfl) ?_
 intro R hR
 replace h0 : R 0 = .int .i64 p0 := (hR 0 _ rfl).trans h0
 clear hR
 refine HT.seq ?_
 refine HT.text (l := ⟨_, true, .rep eStr A ([] : List UInt8)⟩ :: []) (tl := []) (by kernel_rfl) (by kernel_rfl) (by kernel_rfl) ?_ ?_
 ·exact
   Obls.p (fun R' w' hw hs hd => of_assign ⟨_, rfl, ⟨_, rfl, rfl, by decide⟩⟩) <|
   Obls.nil
 intro R w hw hs hF'
 replace h0 := (hs 0 rfl).trans h0
 replace hA := hA.fr hw.size
 replace hF := hF.trans hw
 clear hs hF' hw
 refine seqR_nil ?_
 refine HT.seq ?_
 obtain ⟨x1, q2, hr⟩ := cl_some hr
 refine HT.text (l := ⟨_, true, .raw (.int .i64 p0)⟩ :: ⟨_, true, .rep eStr A x1⟩ :: ⟨_, true, .rep eStr A x1⟩ :: []) (tl := []) (by kernel_rfl) (by kernel_rfl) (by kernel_rfl) ?_ ?_
 ·exact
   Obls.p (fun R' w' hw hs hd => of_move ((hs 0 rfl).trans h0)) <|
   Obls.p (fun R' w' hw hs hd => by have a0 : R' 3 = .int .i64 p0 := hd.g 0 rfl; exact of_call Tryd.call60 (M_itoa_ok (q2 rfl) (hA.fr hw.size) (hG0.fr (hF.trans hw)) a0)) <|
   Obls.p (fun R' w' hw hs hd => by have a0 : Rep eStr A w' (R' 4) x1 := hd.g 0 rfl; exact of_assign a0) <|
   Obls.nil
 intro R w hw hs hF'
 obtain ⟨u3, h2, f_u3⟩ : ∃ u, R 2 = u ∧ Rep eStr A w u x1 := ⟨_, rfl, hF' 2 _ _ rfl rfl rfl⟩
 replace hA := hA.fr hw.size
 replace hF := hF.trans hw
 clear hs hF' hw
 refine seqR_nil ?_
 refine HT.ret ?_
 obtain rfl := Option.some.inj hr
 exact ⟨.inr rfl, [R 2], ⟨rfl, trivial⟩, (f_u3.eq h2), hF⟩
def M_impl_testText (fu : Nat) (p0 : T_impl_Test) : Option (List UInt8) :=
 bif p0.2.2 then (
  ck (inR p0.1 featL.length) <|
  ck (lenOK ((gtD featL p0.1) ++ ([60] : List UInt8)).length) <|
  cl true (M_impl_FormatInt fu p0.2.1) fun x7 =>
  ck (lenOK (((gtD featL p0.1) ++ ([60] : List UInt8)) ++ x7).length) <|
  some (((gtD featL p0.1) ++ ([60] : List UInt8)) ++ x7)
 ) else (
  ck (inR p0.1 featL.length) <|
  ck (lenOK ((gtD featL p0.1) ++ ([62, 61] : List UInt8)).length) <|
  cl true (M_impl_FormatInt fu p0.2.1) fun x13 =>
  ck (lenOK (((gtD featL p0.1) ++ ([62, 61] : List UInt8)) ++ x13).length) <|
  some (((gtD featL p0.1) ++ ([62, 61] : List UInt8)) ++ x13)
 )
theorem M_impl_testText_ok {fu : Nat} {A0 : Av} {p0 : T_impl_Test} {r : List UInt8} (hr : M_impl_testText fu p0 = some r) {w : World} {v0 : Value} (hA : AvOK A0 w) (hG : GTab w) (h0 : Rep E_impl_Test A0 w v0 p0) :
  Calls Tryd.prog 40 #[v0] w fun e w' => ∃ v, e = .returned v ∧ (Rep eStr A0 w' v r ∧ Fr w w') := by
 unfold M_impl_testText at hr
 obtain ⟨w0, hw0⟩ : ∃ w0, w0 = w := ⟨_, rfl⟩
 have hF : Fr w0 w := hw0 ▸ Fr.refl _
 have hA0 : ∀ b o, A0 b o → b < w0.heap.size := fun b o h => hw0 ▸ hA b o h
 have hA00 : AvOK A0 w0 := hA0
 rw [show Fr w = Fr w0 from hw0 ▸ rfl]
 have hG0 : GTab w0 := hw0 ▸ hG
 clear hw0
 obtain ⟨A, hAe⟩ : ∃ A, A = A0 := ⟨_, rfl⟩
 have hAA : ∀ b o, A0 b o → A b o := fun b o h => hAe ▸ h
 replace hA : AvOK A w := hAe ▸ hA
 have hO : IniOK [] A w := IniOK.nil
 refine calls_of_HT2 [.tmp 2] Tryd.func40 Tryd.ntmps40 (by decide) rfl rfl (Nat.le_of_ble_eq_true rfl) ?_
 intro R hR
 have f_v0 : Rep E_impl_Test A w v0 p0 := hAe ▸ h0
 replace h0 : R 0 = v0 := hR 0 _ rfl
 clear hR hAe
 refine HT.seq ?_
 refine HT.textR [] (⟨_, true, [], some (.box w0.heap.size 67 E_impl_Test p0), true, fun A => .any⟩ :: ⟨_, true, [], none, true, fun A => .rep eStr A ([] : List UInt8)⟩ :: []) (by kernel_rfl) (by kernel_rfl) (Wf.mk' (by kernel_rfl) (UAll.cons ust_any (UAll.cons ust_rep (UAll.nil))) (by kernel_rfl) (by kernel_rfl)) hO hA ?_ ?_
 ·exact
   OblsR.cons (OblR.made _ rfl rfl rfl rfl fun A' R' w' ho hd => by have a0 : R' 0 = v0 := (ho.old 0 rfl).trans h0; have ra0 := (f_v0.stp ho.stp).eq a0; exact made_box ra0 (Nat.le_trans hF.size ho.ch.size)) <|
   OblsR.p (fun A' R' w' ho hd => of_assign ⟨_, rfl, ⟨_, rfl, rfl, by decide⟩⟩) <|
   OblsR.nil
 intro done ρ σ A R w hdn hI
 obtain ⟨b1_0, e_b1_0⟩ := hI.boxv hdn 0 rfl rfl
 have h1 : R 1 = (.pointer (some ⟨b1_0, 0, none⟩)) := (hI.opvR hdn 0 0 rfl rfl rfl rfl rfl).symm.trans e_b1_0
 replace hAA := hI.low' hAA hA0 (hO.ge (trivial))
 replace hF : Fr w0 w := hF.tr hI.ch (hO.ge (trivial))
 replace hO : IniOK [ob (.pointer (some ⟨b1_0, 0, none⟩)) (.box w0.heap.size 67 E_impl_Test p0)] A w := hI.left hdn [(0, ob (.pointer (some ⟨b1_0, 0, none⟩)) (.box w0.heap.size 67 E_impl_Test p0))] ⟨rfl, rfl, e_b1_0, rfl, rfl, trivial⟩
 replace hA := hI.avok
 clear hI
 refine HT.seq ?_
 refine HT.text (l := ⟨_, true, .rep eStr A ([62, 61] : List UInt8)⟩ :: []) (tl := []) (by kernel_rfl) (by kernel_rfl) (by kernel_rfl) ?_ ?_
 ·exact
   Obls.p (fun R' w' hw hs hd => of_assign ⟨_, rfl, ⟨_, rfl, rfl, by decide⟩⟩) <|
   Obls.nil
 intro R w hw hs hF'
 replace h1 := (hs 1 rfl).trans h1
 obtain ⟨u2, h3, f_u2⟩ : ∃ u, R 3 = u ∧ Rep eStr A w u ([62, 61] : List UInt8) := ⟨_, rfl, hF' 0 _ _ rfl rfl rfl⟩
 replace hO := hO.fr hw
 replace hA := hA.fr hw.size
 replace hF := hF.trans hw
 clear hs hF' hw
 refine seqR_nil ?_
 refine HT.seq ?_
 refine HT.seq ?_
 refine HT.text (l := ⟨_, true, .raw (.pointer (some ⟨b1_0, 2, none⟩))⟩ :: ⟨_, true, .raw (.bool p0.2.2)⟩ :: []) (tl := []) (by kernel_rfl) (by kernel_rfl) (by kernel_rfl) ?_ ?_
 ·exact
   Obls.p (fun R' w' hw hs hd => of_fieldAddr_raw ((hs 1 rfl).trans h1) ff_67_2 Tryd.sizeOf4 (by decide) rfl) <|
   Obls.p (fun R' w' hw hs hd => by have a0 : R' 4 = (.pointer (some ⟨b1_0, 2, none⟩)) := hd.g 0 rfl; exact OpF.bool (of_load_box ((hO.fr hw).ok 0 _ rfl).1 a0 fl_impl_Test_2 rfl Tryd.isAgg4 Tryd.sizeOf4)) <|
   Obls.nil
 intro R w hw hs hF'
 replace h1 := (hs 1 rfl).trans h1
 replace h3 := (hs 3 rfl).trans h3
 have h5 : R 5 = .bool p0.2.2 := hF' 1 _ _ rfl rfl rfl
 replace f_u2 := f_u2.fr hw
 replace hO := hO.fr hw
 replace hA := hA.fr hw.size
 replace hF := hF.trans hw
 clear hs hF' hw
 refine seqR_nil ?_
 refine HT.cond p0.2.2 h5 (fun c3 => ?_) (fun c3 => ?_)
 ·have hr := cnd_t c3 hr
  refine HT.text (l := ⟨_, true, .rep eStr A ([60] : List UInt8)⟩ :: []) (tl := []) (by kernel_rfl) (by kernel_rfl) (by kernel_rfl) ?_ ?_
  ·exact
    Obls.p (fun R' w' hw hs hd => of_assign ⟨_, rfl, ⟨_, rfl, rfl, by decide⟩⟩) <|
    Obls.nil
  intro R w hw hs hF'
  replace h1 := (hs 1 rfl).trans h1
  obtain ⟨u4, h3, f_u4⟩ : ∃ u, R 3 = u ∧ Rep eStr A w u ([60] : List UInt8) := ⟨_, rfl, hF' 0 _ _ rfl rfl rfl⟩
  replace hO := hO.fr hw
  replace hA := hA.fr hw.size
  replace hF := hF.trans hw
  clear hs hF' hw
  refine seqR_nil ?_
  refine HT.seq ?_
  obtain ⟨e5, hr⟩ := ck_some hr
  obtain ⟨e6, hr⟩ := ck_some hr
  obtain ⟨x7, q8, hr⟩ := cl_some hr
  obtain ⟨e9, hr⟩ := ck_some hr
  refine HT.draw (by kernel_rfl) (l := ⟨_, true, .raw (.pointer (some ⟨b1_0, 0, none⟩))⟩ :: ⟨_, true, .raw (.int .i64 p0.1)⟩ :: ⟨_, true, .raw (.pointer (some ⟨0, p0.1.toNat, none⟩))⟩ :: ⟨_, true, .rep eStr A (gtD featL p0.1)⟩ :: ⟨_, true, .raw u4⟩ :: ⟨_, true, .rep eStr A ((gtD featL p0.1) ++ ([60] : List UInt8))⟩ :: ⟨_, true, .raw (.pointer (some ⟨b1_0, 1, none⟩))⟩ :: ⟨_, true, .raw (.int .i64 p0.2.1)⟩ :: ⟨_, true, .rep eStr A x7⟩ :: ⟨_, true, .rep eStr A (((gtD featL p0.1) ++ ([60] : List UInt8)) ++ x7)⟩ :: ⟨_, true, .rep eStr A (((gtD featL p0.1) ++ ([60] : List UInt8)) ++ x7)⟩ :: []) (tl := []) (by kernel_rfl) (by kernel_rfl) (by kernel_rfl) (by kernel_rfl) ?_ ?_
  ·exact
    Obls.p (fun R' w' hw hs hd => of_fieldAddr_raw ((hs 1 rfl).trans h1) ff_67_0 Tryd.sizeOf3 (by decide) rfl) <|
    Obls.p (fun R' w' hw hs hd => by have a0 : R' 6 = (.pointer (some ⟨b1_0, 0, none⟩)) := hd.g 0 rfl; exact OpF.int (of_load_box ((hO.fr hw).ok 0 _ rfl).1 a0 fl_impl_Test_0 rfl Tryd.isAgg3 Tryd.sizeOf3)) <|
    Obls.p (fun R' w' hw hs hd => by have a1 : R' 7 = .int .i64 p0.1 := hd.g 0 rfl; exact of_indexAddr_g a1 Tryd.underlying58 Tryd.sizeOf9 e5) <|
    Obls.p (fun R' w' hw hs hd => by have a0 : R' 8 = (.pointer (some ⟨0, p0.1.toNat, none⟩)) := hd.g 0 rfl; exact (of_load ((hG0.fr (hF.trans hw)).featAt e5 (a0)) Tryd.isAgg9 Tryd.sizeOf9)) <|
    Obls.p (fun R' w' hw hs hd => of_move ((hs 3 rfl).trans h3)) <|
    Obls.p (fun R' w' hw hs hd => by have a0 : Rep eStr A w' (R' 9) (gtD featL p0.1) := hd.g 0 rfl; have a1 : R' 10 = u4 := hd.g 1 rfl; have ra1 := (f_u4.fr hw).eq a1; exact of_cat a0 ra1 e6) <|
    Obls.p (fun R' w' hw hs hd => of_fieldAddr_raw ((hs 1 rfl).trans h1) ff_67_1 Tryd.sizeOf3 (by decide) rfl) <|
    Obls.p (fun R' w' hw hs hd => by have a0 : R' 12 = (.pointer (some ⟨b1_0, 1, none⟩)) := hd.g 0 rfl; exact OpF.int (of_load_box ((hO.fr hw).ok 0 _ rfl).1 a0 fl_impl_Test_1 rfl Tryd.isAgg3 Tryd.sizeOf3)) <|
    Obls.p (fun R' w' hw hs hd => by have a0 : R' 13 = .int .i64 p0.2.1 := hd.g 0 rfl; exact of_call Tryd.call34 (M_impl_FormatInt_ok (q8 rfl) (hA.fr hw.size) (hG0.fr (hF.trans hw)) a0)) <|
    Obls.p (fun R' w' hw hs hd => by have a0 : Rep eStr A w' (R' 11) ((gtD featL p0.1) ++ ([60] : List UInt8)) := hd.g 0 rfl; have a1 : Rep eStr A w' (R' 14) x7 := hd.g 1 rfl; exact of_cat a0 a1 e9) <|
    Obls.p (fun R' w' hw hs hd => by have a0 : Rep eStr A w' (R' 15) (((gtD featL p0.1) ++ ([60] : List UInt8)) ++ x7) := hd.g 0 rfl; exact of_assign a0) <|
    Obls.nil
  intro R w hw hs hF'
  obtain ⟨u10, h2, f_u10⟩ : ∃ u, R 2 = u ∧ Rep eStr A w u (((gtD featL p0.1) ++ ([60] : List UInt8)) ++ x7) := ⟨_, rfl, hF' 10 _ _ rfl rfl rfl⟩
  replace hO := hO.fr hw
  replace hO : IniOK [] A w := hO.sub [] trivial
  replace hA := hA.fr hw.size
  replace hF := hF.trans hw
  clear hs hF' hw
  refine seqR_nil ?_
  refine HT.ret ?_
  obtain rfl := Option.some.inj hr
  exact ⟨.inr rfl, [R 2], ⟨rfl, trivial⟩, (f_u10.eq h2).down hAA, hF⟩
 ·have hr := cnd_f c3 hr
  refine HT.skip ?_
  refine HT.seq ?_
  obtain ⟨e11, hr⟩ := ck_some hr
  obtain ⟨e12, hr⟩ := ck_some hr
  obtain ⟨x13, q14, hr⟩ := cl_some hr
  obtain ⟨e15, hr⟩ := ck_some hr
  refine HT.draw (by kernel_rfl) (l := ⟨_, true, .raw (.pointer (some ⟨b1_0, 0, none⟩))⟩ :: ⟨_, true, .raw (.int .i64 p0.1)⟩ :: ⟨_, true, .raw (.pointer (some ⟨0, p0.1.toNat, none⟩))⟩ :: ⟨_, true, .rep eStr A (gtD featL p0.1)⟩ :: ⟨_, true, .raw u2⟩ :: ⟨_, true, .rep eStr A ((gtD featL p0.1) ++ ([62, 61] : List UInt8))⟩ :: ⟨_, true, .raw (.pointer (some ⟨b1_0, 1, none⟩))⟩ :: ⟨_, true, .raw (.int .i64 p0.2.1)⟩ :: ⟨_, true, .rep eStr A x13⟩ :: ⟨_, true, .rep eStr A (((gtD featL p0.1) ++ ([62, 61] : List UInt8)) ++ x13)⟩ :: ⟨_, true, .rep eStr A (((gtD featL p0.1) ++ ([62, 61] : List UInt8)) ++ x13)⟩ :: []) (tl := []) (by kernel_rfl) (by kernel_rfl) (by kernel_rfl) (by kernel_rfl) ?_ ?_
  ·exact
    Obls.p (fun R' w' hw hs hd => of_fieldAddr_raw ((hs 1 rfl).trans h1) ff_67_0 Tryd.sizeOf3 (by decide) rfl) <|
    Obls.p (fun R' w' hw hs hd => by have a0 : R' 6 = (.pointer (some ⟨b1_0, 0, none⟩)) := hd.g 0 rfl; exact OpF.int (of_load_box ((hO.fr hw).ok 0 _ rfl).1 a0 fl_impl_Test_0 rfl Tryd.isAgg3 Tryd.sizeOf3)) <|
    Obls.p (fun R' w' hw hs hd => by have a1 : R' 7 = .int .i64 p0.1 := hd.g 0 rfl; exact of_indexAddr_g a1 Tryd.underlying58 Tryd.sizeOf9 e11) <|
    Obls.p (fun R' w' hw hs hd => by have a0 : R' 8 = (.pointer (some ⟨0, p0.1.toNat, none⟩)) := hd.g 0 rfl; exact (of_load ((hG0.fr (hF.trans hw)).featAt e11 (a0)) Tryd.isAgg9 Tryd.sizeOf9)) <|
    Obls.p (fun R' w' hw hs hd => of_move ((hs 3 rfl).trans h3)) <|
    Obls.p (fun R' w' hw hs hd => by have a0 : Rep eStr A w' (R' 9) (gtD featL p0.1) := hd.g 0 rfl; have a1 : R' 10 = u2 := hd.g 1 rfl; have ra1 := (f_u2.fr hw).eq a1; exact of_cat a0 ra1 e12) <|
    Obls.p (fun R' w' hw hs hd => of_fieldAddr_raw ((hs 1 rfl).trans h1) ff_67_1 Tryd.sizeOf3 (by decide) rfl) <|
    Obls.p (fun R' w' hw hs hd => by have a0 : R' 12 = (.pointer (some ⟨b1_0, 1, none⟩)) := hd.g 0 rfl; exact OpF.int (of_load_box ((hO.fr hw).ok 0 _ rfl).1 a0 fl_impl_Test_1 rfl Tryd.isAgg3 Tryd.sizeOf3)) <|
    Obls.p (fun R' w' hw hs hd => by have a0 : R' 13 = .int .i64 p0.2.1 := hd.g 0 rfl; exact of_call Tryd.call34 (M_impl_FormatInt_ok (q14 rfl) (hA.fr hw.size) (hG0.fr (hF.trans hw)) a0)) <|
    Obls.p (fun R' w' hw hs hd => by have a0 : Rep eStr A w' (R' 11) ((gtD featL p0.1) ++ ([62, 61] : List UInt8)) := hd.g 0 rfl; have a1 : Rep eStr A w' (R' 14) x13 := hd.g 1 rfl; exact of_cat a0 a1 e15) <|
    Obls.p (fun R' w' hw hs hd => by have a0 : Rep eStr A w' (R' 15) (((gtD featL p0.1) ++ ([62, 61] : List UInt8)) ++ x13) := hd.g 0 rfl; exact of_assign a0) <|
    Obls.nil
  intro R w hw hs hF'
  obtain ⟨u16, h2, f_u16⟩ : ∃ u, R 2 = u ∧ Rep eStr A w u (((gtD featL p0.1) ++ ([62, 61] : List UInt8)) ++ x13) := ⟨_, rfl, hF' 10 _ _ rfl rfl rfl⟩
  replace hO := hO.fr hw
  replace hO : IniOK [] A w := hO.sub [] trivial
  replace hA := hA.fr hw.size
  replace hF := hF.trans hw
  clear hs hF' hw
  refine seqR_nil ?_
  refine HT.ret ?_
  obtain rfl := Option.some.inj hr
  exact ⟨.inr rfl, [R 2], ⟨rfl, trivial⟩, (f_u16.eq h2).down hAA, hF⟩
def M_impl_FormatRules_L1 (fu : Nat) (p0 : T_impl_RuleSet) (y11 : Int) : Nat → Int → (List (List UInt8)) → Option (List (List UInt8))
 | 0, _, _ => none
 | k + 1, y23, y24 =>
  bif (decide (y23 < ((gtD p0 y11).length : Int))) then (
   ck (inR y23 (gtD p0 y11).length) <|
   cl true (M_impl_testText fu (gtD (gtD p0 y11) y23)) fun x31 =>
   ck (lenOK (y24.length + ([x31] : List (List UInt8)).length)) <|
   ck (i64B (y23 + (1 : Int))) <|
   M_impl_FormatRules_L1 fu p0 y11 k (y23 + (1 : Int)) (y24 ++ ([x31] : List (List UInt8)))
  ) else (
   some y24
  )
def M_impl_FormatRules_L0 (fu : Nat) (p0 : T_impl_RuleSet) : Nat → Int → (List (List UInt8)) → Option (List (List UInt8))
 | 0, _, _ => none
 | k + 1, y11, y12 =>
  bif (decide (y11 < (p0.length : Int))) then (
   ck (inR y11 p0.length) <|
   cl true (M_impl_FormatRules_L1 fu p0 y11 fu (0 : Int) ([] : List (List UInt8))) fun s22 =>
   cl true (M_join fu s22 ([44] : List UInt8)) fun x38 =>
   ck (lenOK (y12.length + ([x38] : List (List UInt8)).length)) <|
   ck (i64B (y11 + (1 : Int))) <|
   M_impl_FormatRules_L0 fu p0 k (y11 + (1 : Int)) (y12 ++ ([x38] : List (List UInt8)))
  ) else (
   some y12
  )
def M_impl_FormatRules (fu : Nat) (p0 : T_impl_RuleSet) : Option (List UInt8) :=
 cl true (M_impl_IsValidRules fu p0) fun x2 =>
 bif (!x2) then (
  some ([] : List UInt8)
 ) else (
  cl true (M_impl_FormatRules_L0 fu p0 fu (0 : Int) ([] : List (List UInt8))) fun s10 =>
  cl true (M_join fu s10 ([32, 111, 114, 32] : List UInt8)) fun x44 =>
  some x44
 )
theorem M_impl_FormatRules_ok {fu : Nat} {A0 : Av} {p0 : T_impl_RuleSet} {r : List UInt8} (hr : M_impl_FormatRules fu p0 = some r) {w : World} {v0 : Value} (hA : AvOK A0 w) (hG : GTab w) (h0 : Rep E_impl_RuleSet A0 w v0 p0) :
  Calls Tryd.prog 20 #[v0] w fun e w' => ∃ v, e = .returned v ∧ (Rep eStr A0 w' v r ∧ Fr w w') := by
 unfold M_impl_FormatRules at hr
 obtain ⟨w0, hw0⟩ : ∃ w0, w0 = w := ⟨_, rfl⟩
 have hF : Fr w0 w := hw0 ▸ Fr.refl _
 have hA0 : ∀ b o, A0 b o → b < w0.heap.size := fun b o h => hw0 ▸ hA b o h
 have hA00 : AvOK A0 w0 := hA0
 rw [show Fr w = Fr w0 from hw0 ▸ rfl]
 have hG0 : GTab w0 := hw0 ▸ hG
 clear hw0
 obtain ⟨A, hAe⟩ : ∃ A, A = A0 := ⟨_, rfl⟩
 have hAA : ∀ b o, A0 b o → A b o := fun b o h => hAe ▸ h
 replace hA : AvOK A w := hAe ▸ hA
 have hO : IniOK [] A w := IniOK.nil
 refine calls_of_HT2 [.tmp 2] Tryd.func20 Tryd.ntmps20 (by decide) rfl rfl (Nat.le_of_ble_eq_true rfl) ?_
 intro R hR
 have f_v0 : Rep E_impl_RuleSet A w v0 p0 := hAe ▸ h0
 replace h0 : R 0 = v0 := hR 0 _ rfl
 clear hR hAe
 refine HT.seq ?_
 refine HT.textR [] (⟨_, true, [], some (.box w0.heap.size 45 E_impl_RuleSet p0), true, fun A => .any⟩ :: ⟨_, true, [], none, true, fun A => .rep eStr A ([] : List UInt8)⟩ :: []) (by kernel_rfl) (by kernel_rfl) (Wf.mk' (by kernel_rfl) (UAll.cons ust_any (UAll.cons ust_rep (UAll.nil))) (by kernel_rfl) (by kernel_rfl)) hO hA ?_ ?_
 ·exact
   OblsR.cons (OblR.made _ rfl rfl rfl rfl fun A' R' w' ho hd => by have a0 : R' 0 = v0 := (ho.old 0 rfl).trans h0; have ra0 := (f_v0.stp ho.stp).eq a0; exact made_box ra0 (Nat.le_trans hF.size ho.ch.size)) <|
   OblsR.p (fun A' R' w' ho hd => of_assign ⟨_, rfl, ⟨_, rfl, rfl, by decide⟩⟩) <|
   OblsR.nil
 intro done ρ σ A R w hdn hI
 obtain ⟨b1_0, e_b1_0⟩ := hI.boxv hdn 0 rfl rfl
 have h1 : R 1 = (.pointer (some ⟨b1_0, 0, none⟩)) := (hI.opvR hdn 0 0 rfl rfl rfl rfl rfl).symm.trans e_b1_0
 replace hAA := hI.low' hAA hA0 (hO.ge (trivial))
 replace hF : Fr w0 w := hF.tr hI.ch (hO.ge (trivial))
 replace hO : IniOK [ob (.pointer (some ⟨b1_0, 0, none⟩)) (.box w0.heap.size 45 E_impl_RuleSet p0)] A w := hI.left hdn [(0, ob (.pointer (some ⟨b1_0, 0, none⟩)) (.box w0.heap.size 45 E_impl_RuleSet p0))] ⟨rfl, rfl, e_b1_0, rfl, rfl, trivial⟩
 replace hA := hI.avok
 clear hI
 refine HT.seq ?_
 refine HT.seq ?_
 obtain ⟨x2, q3, hr⟩ := cl_some hr
 refine HT.text (l := ⟨_, true, .rep E_impl_RuleSet A p0⟩ :: ⟨_, true, .raw (.bool x2)⟩ :: ⟨_, true, .raw (.bool (!x2))⟩ :: []) (tl := []) (by kernel_rfl) (by kernel_rfl) (by kernel_rfl) ?_ ?_
 ·exact
   Obls.p (fun R' w' hw hs hd => (of_load_box ((hO.fr hw).ok 0 _ rfl).1 ((hs 1 rfl).trans h1) (Fld.id _) rfl Tryd.isAgg45 Tryd.sizeOf45)) <|
   Obls.p (fun R' w' hw hs hd => by have a0 : Rep E_impl_RuleSet A w' (R' 9) p0 := hd.g 0 rfl; exact of_call Tryd.call45 (M_impl_IsValidRules_ok (q3 rfl) (hA.fr hw.size) a0)) <|
   Obls.p (fun R' w' hw hs hd => by have a0 : R' 10 = .bool x2 := hd.g 0 rfl; exact of_not a0) <|
   Obls.nil
 intro R w hw hs hF'
 replace h1 := (hs 1 rfl).trans h1
 have h11 : R 11 = .bool (!x2) := hF' 2 _ _ rfl rfl rfl
 replace hO := hO.fr hw
 replace hA := hA.fr hw.size
 replace hF := hF.trans hw
 clear hs hF' hw
 refine seqR_nil ?_
 refine HT.cond (!x2) h11 (fun c4 => ?_) (fun c4 => ?_)
 ·have hr := cnd_t c4 hr
  refine HT.seq ?_
  refine HT.text (l := ⟨_, true, .rep eStr A ([] : List UInt8)⟩ :: []) (tl := []) (by kernel_rfl) (by kernel_rfl) (by kernel_rfl) ?_ ?_
  ·exact
    Obls.p (fun R' w' hw hs hd => of_assign ⟨_, rfl, ⟨_, rfl, rfl, by decide⟩⟩) <|
    Obls.nil
  intro R w hw hs hF'
  obtain ⟨u5, h2, f_u5⟩ : ∃ u, R 2 = u ∧ Rep eStr A w u ([] : List UInt8) := ⟨_, rfl, hF' 0 _ _ rfl rfl rfl⟩
  replace hO := hO.fr hw
  replace hO : IniOK [] A w := hO.sub [] trivial
  replace hA := hA.fr hw.size
  replace hF := hF.trans hw
  clear hs hF' hw
  refine seqR_nil ?_
  refine HT.ret ?_
  obtain rfl := Option.some.inj hr
  exact ⟨.inr rfl, [R 2], ⟨rfl, trivial⟩, (f_u5.eq h2).down hAA, hF⟩
 ·have hr := cnd_f c4 hr
  refine HT.skip ?_
  refine HT.seq ?_
  refine HT.text (l := ⟨_, true, .raw (.slice none 0 0)⟩ :: []) (tl := []) (by kernel_rfl) (by kernel_rfl) (by kernel_rfl) ?_ ?_
  ·exact
    Obls.p (fun R' w' hw hs hd => of_assign rfl) <|
    Obls.nil
  intro R w hw hs hF'
  replace h1 := (hs 1 rfl).trans h1
  obtain ⟨u6, n_u6⟩ : ∃ u, u = Value.slice none 0 0 := ⟨_, rfl⟩
  have h3 : R 3 = u6 := (hF' 0 _ _ rfl rfl rfl).trans n_u6.symm
  replace hO := hO.fr hw
  replace hA := hA.fr hw.size
  replace hF := hF.trans hw
  clear hs hF' hw
  refine seqR_nil ?_
  replace hO := hO.nilcons (u := u6) n_u6 w0.heap.size 9 eStr
  refine HT.seq ?_
  refine HT.seq ?_
  refine HT.text (l := ⟨_, true, .raw (.pointer (some ⟨b1_0, 0, none⟩))⟩ :: ⟨_, true, .rep (eSl E_impl_Rule) A p0⟩ :: ⟨_, true, .raw (.int .i64 (p0.length : Int))⟩ :: ⟨_, true, .raw (.int .i64 (0 : Int))⟩ :: []) (tl := []) (by kernel_rfl) (by kernel_rfl) (by kernel_rfl) ?_ ?_
  ·exact
    Obls.p (fun R' w' hw hs hd => of_fieldAddr_raw ((hs 1 rfl).trans h1) ff_45_0 Tryd.sizeOf43 (by decide) rfl) <|
    Obls.p (fun R' w' hw hs hd => by have a0 : R' 12 = (.pointer (some ⟨b1_0, 0, none⟩)) := hd.g 0 rfl; exact (of_load_box ((hO.fr hw).ok 1 _ rfl).1 a0 fl_impl_RuleSet_0 rfl Tryd.isAgg43 Tryd.sizeOf43)) <|
    Obls.p (fun R' w' hw hs hd => by have a0 : Rep (eSl E_impl_Rule) A w' (R' 13) p0 := hd.g 0 rfl; exact of_len_sl (aT := #[]) a0 Tryd.underlying43) <|
    Obls.p (fun R' w' hw hs hd => of_move rfl) <|
    Obls.nil
  intro R w hw hs hF'
  replace h3 := (hs 3 rfl).trans h3
  obtain ⟨u7, h13, f_u7⟩ : ∃ u, R 13 = u ∧ Rep (eSl E_impl_Rule) A w u p0 := ⟨_, rfl, hF' 1 _ _ rfl rfl rfl⟩
  have h14 : R 14 = .int .i64 (p0.length : Int) := hF' 2 _ _ rfl rfl rfl
  have h15 : R 15 = .int .i64 (0 : Int) := hF' 3 _ _ rfl rfl rfl
  replace hO := hO.fr hw
  replace hO : IniOK [ob u6 (.vec w0.heap.size 9 eStr ([] : List (List UInt8)))] A w := hO.sub [(0, ob u6 (.vec w0.heap.size 9 eStr ([] : List (List UInt8))))] ⟨rfl, rfl, trivial⟩
  replace hA := hA.fr hw.size
  replace hF := hF.trans hw
  clear hs hF' hw
  refine seqR_nil ?_
  obtain ⟨rl8, q9, hr⟩ := cl_some hr
  replace q9 := q9 rfl
  refine HT.cut0 (fun R w => ∃ A : Av, ∃ (s10 : (List (List UInt8))) (uo_u6 : Value), rl8 = s10 ∧ AvOK A w ∧ Fr w0 w ∧ (∀ b o, A0 b o → A b o) ∧ IniOK [ob uo_u6 (.vec w0.heap.size 9 eStr s10)] A w ∧ R 3 = uo_u6) ?_ ?_
  ·refine HT.block ?_
   refine HT.loop (fun k R w => ∃ A : Av, ∃ (y11 : Int) (y12 : List (List UInt8)) (ul_u6 : Value), M_impl_FormatRules_L0 fu p0 k y11 y12 = some rl8 ∧ AvOK A w ∧ Fr w0 w ∧ (∀ b o, A0 b o → A b o) ∧ IniOK [ob ul_u6 (.vec w0.heap.size 9 eStr y12)] A w ∧ R 3 = ul_u6 ∧ R 13 = u7 ∧ R 14 = .int .i64 (p0.length : Int) ∧ R 15 = .int .i64 y11 ∧ Rep (eSl E_impl_Rule) A w u7 p0) fu ⟨_, _, _, u6, q9, hA, hF, hAA, hO, h3, h13, h14, h15, f_u7⟩ ?_
   have hr0 := hr; clear hr q9
   rintro k R w ⟨A, y11, y12, ul_u6, hr, hA, hF, hAA, hO, h3, h13, h14, h15, f_u7⟩
   rcases k with _ | k
   ·cases (show none = some _ from hr)
   rw [M_impl_FormatRules_L0] at hr
   refine HT.seq ?_
   refine HT.text (l := ⟨_, true, .raw (.bool (decide (y11 < (p0.length : Int))))⟩ :: []) (tl := []) (by kernel_rfl) (by kernel_rfl) (by kernel_rfl) ?_ ?_
   ·exact
     Obls.p (fun R' w' hw hs hd => of_lss ((hs 15 rfl).trans h15) ((hs 14 rfl).trans h14)) <|
     Obls.nil
   intro R w hw hs hF'
   replace h3 := (hs 3 rfl).trans h3
   replace h13 := (hs 13 rfl).trans h13
   replace h14 := (hs 14 rfl).trans h14
   replace h15 := (hs 15 rfl).trans h15
   have h16 : R 16 = .bool (decide (y11 < (p0.length : Int))) := hF' 0 _ _ rfl rfl rfl
   replace f_u7 := f_u7.fr hw
   replace hO := hO.fr hw
   replace hA := hA.fr hw.size
   replace hF := hF.trans hw
   clear hs hF' hw
   refine seqR_nil ?_
   refine HT.seq ?_
   refine HT.cond (decide (y11 < (p0.length : Int))) h16 (fun c13 => ?_) (fun c13 => ?_)
   ·have hr := cnd_t c13 hr
    refine HT.skip ?_
    refine HT.seq ?_
    refine HT.block ?_
    refine HT.seq ?_
    obtain ⟨e14, hr⟩ := ck_some hr
    refine HT.textR [ob ul_u6 (.vec w0.heap.size 9 eStr y12)] (⟨_, true, [], none, true, fun A => .qtr E_impl_Rule A (gtD p0 y11)⟩ :: ⟨_, true, [], none, true, fun A => .rep E_impl_Rule A (gtD p0 y11)⟩ :: ⟨_, true, [], some (.box w0.heap.size 73 E_impl_Rule ([] : List T_impl_Test)), true, fun A => .any⟩ :: ⟨_, true, [3], some (.box w0.heap.size 73 E_impl_Rule (gtD p0 y11)), false, fun A => .any⟩ :: []) (by kernel_rfl) (by kernel_rfl) (Wf.mk' (by kernel_rfl) (UAll.cons ust_qtr (UAll.cons ust_rep (UAll.cons ust_any (UAll.cons ust_any (UAll.nil))))) (by kernel_rfl) (by kernel_rfl)) hO hA ?_ ?_
    ·exact
      OblsR.p (fun A' R' w' ho hd => by have ra0 := (f_u7.stp ho.stp).eq ((ho.old 13 rfl).trans h13); exact of_indexAddr ra0 ((ho.old 15 rfl).trans h15) Tryd.underlying43 Tryd.sizeOf73 e14) <|
      OblsR.p (fun A' R' w' ho hd => by have a0 : QRep E_impl_Rule A' w' (R' 17) (gtD p0 y11) := hd.g 0 rfl; exact (of_load a0.ptr Tryd.isAgg73 Tryd.sizeOf73)) <|
      OblsR.cons (OblR.made _ rfl rfl rfl rfl fun A' R' w' ho hd => by exact made_alloc Tryd.zeroValue73 (fun A w => rep1_nil) (Nat.le_trans hF.size ho.ch.size)) <|
      OblsR.cons (OblR.took 3 _ _ rfl rfl rfl rfl rfl fun A' R' w' ho hd u hok hav hin hop hds => by have a1 : Rep E_impl_Rule A' w' (R' 18) (gtD p0 y11) := hd.g 1 rfl; obtain ⟨b, hb, hB', hbx⟩ := hok; have hop' := hop _ _ rfl rfl rfl rfl; exact took_store a1 (hop'.symm.trans hb) hb ⟨b, hb, hB', hbx⟩ hav (FldS.id _) Tryd.sizeOf73 rfl) <|
      OblsR.nil
    intro done ρ σ A R w hdn hI
    replace h3 : R 3 = ul_u6 := (hI.reg rfl).trans h3
    replace h13 : R 13 = u7 := (hI.reg rfl).trans h13
    replace h14 : R 14 = .int .i64 (p0.length : Int) := (hI.reg rfl).trans h14
    replace h15 : R 15 = .int .i64 y11 := (hI.reg rfl).trans h15
    have z15 := hI.inivR 0 rfl
    obtain ⟨b5_15, e_b5_15⟩ := hI.boxv hdn 4 rfl rfl
    have z17 := (hI.opnR hdn 4 3 rfl rfl rfl rfl rfl).symm.trans e_b5_15
    have h5 : R 5 = (.pointer (some ⟨b5_15, 0, none⟩)) := (hI.opvR hdn 3 2 rfl rfl rfl rfl rfl).symm.trans z17
    replace f_u7 := f_u7.stp hI.stp
    replace hAA := hI.low' hAA hA0 (hO.ge (⟨rfl, trivial⟩))
    replace hF : Fr w0 w := hF.tr hI.ch (hO.ge (⟨rfl, trivial⟩))
    replace hO : IniOK [ob ul_u6 (.vec w0.heap.size 9 eStr y12), ob (.pointer (some ⟨b5_15, 0, none⟩)) (.box w0.heap.size 73 E_impl_Rule (gtD p0 y11))] A w := hI.left hdn [(0, ob ul_u6 (.vec w0.heap.size 9 eStr y12)), (4, ob (.pointer (some ⟨b5_15, 0, none⟩)) (.box w0.heap.size 73 E_impl_Rule (gtD p0 y11)))] ⟨rfl, rfl, z15, rfl, rfl, ⟨rfl, rfl, e_b5_15, rfl, rfl, trivial⟩⟩
    replace hA := hI.avok
    clear hI
    refine HT.seq ?_
    refine HT.text (l := ⟨_, true, .raw (.slice none 0 0)⟩ :: []) (tl := []) (by kernel_rfl) (by kernel_rfl) (by kernel_rfl) ?_ ?_
    ·exact
      Obls.p (fun R' w' hw hs hd => of_assign rfl) <|
      Obls.nil
    intro R w hw hs hF'
    replace h3 := (hs 3 rfl).trans h3
    replace h5 := (hs 5 rfl).trans h5
    replace h13 := (hs 13 rfl).trans h13
    replace h14 := (hs 14 rfl).trans h14
    replace h15 := (hs 15 rfl).trans h15
    obtain ⟨u18, n_u18⟩ : ∃ u, u = Value.slice none 0 0 := ⟨_, rfl⟩
    have h6 : R 6 = u18 := (hF' 0 _ _ rfl rfl rfl).trans n_u18.symm
    replace f_u7 := f_u7.fr hw
    replace hO := hO.fr hw
    replace hA := hA.fr hw.size
    replace hF := hF.trans hw
    clear hs hF' hw
    refine seqR_nil ?_
    replace hO := hO.nilcons (u := u18) n_u18 w0.heap.size 9 eStr
    refine HT.seq ?_
    refine HT.seq ?_
    refine HT.text (l := ⟨_, true, .raw (.pointer (some ⟨b5_15, 0, none⟩))⟩ :: ⟨_, true, .rep (eSl E_impl_Test) A (gtD p0 y11)⟩ :: ⟨_, true, .raw (.int .i64 ((gtD p0 y11).length : Int))⟩ :: ⟨_, true, .raw (.int .i64 (0 : Int))⟩ :: []) (tl := []) (by kernel_rfl) (by kernel_rfl) (by kernel_rfl) ?_ ?_
    ·exact
      Obls.p (fun R' w' hw hs hd => of_fieldAddr_raw ((hs 5 rfl).trans h5) ff_73_0 Tryd.sizeOf71 (by decide) rfl) <|
      Obls.p (fun R' w' hw hs hd => by have a0 : R' 19 = (.pointer (some ⟨b5_15, 0, none⟩)) := hd.g 0 rfl; exact (of_load_box ((hO.fr hw).ok 2 _ rfl).1 a0 fl_impl_Rule_0 rfl Tryd.isAgg71 Tryd.sizeOf71)) <|
      Obls.p (fun R' w' hw hs hd => by have a0 : Rep (eSl E_impl_Test) A w' (R' 20) (gtD p0 y11) := hd.g 0 rfl; exact of_len_sl (aT := #[]) a0 Tryd.underlying71) <|
      Obls.p (fun R' w' hw hs hd => of_move rfl) <|
      Obls.nil
    intro R w hw hs hF'
    replace h3 := (hs 3 rfl).trans h3
    replace h6 := (hs 6 rfl).trans h6
    replace h13 := (hs 13 rfl).trans h13
    replace h14 := (hs 14 rfl).trans h14
    replace h15 := (hs 15 rfl).trans h15
    obtain ⟨u19, h20, f_u19⟩ : ∃ u, R 20 = u ∧ Rep (eSl E_impl_Test) A w u (gtD p0 y11) := ⟨_, rfl, hF' 1 _ _ rfl rfl rfl⟩
    have h21 : R 21 = .int .i64 ((gtD p0 y11).length : Int) := hF' 2 _ _ rfl rfl rfl
    have h22 : R 22 = .int .i64 (0 : Int) := hF' 3 _ _ rfl rfl rfl
    replace f_u7 := f_u7.fr hw
    replace hO := hO.fr hw
    replace hO : IniOK [ob u18 (.vec w0.heap.size 9 eStr ([] : List (List UInt8))), ob ul_u6 (.vec w0.heap.size 9 eStr y12)] A w := hO.sub [(0, ob u18 (.vec w0.heap.size 9 eStr ([] : List (List UInt8)))), (1, ob ul_u6 (.vec w0.heap.size 9 eStr y12))] ⟨rfl, rfl, ⟨rfl, rfl, trivial⟩⟩
    replace hA := hA.fr hw.size
    replace hF := hF.trans hw
    clear hs hF' hw
    refine seqR_nil ?_
    obtain ⟨rl20, q21, hr⟩ := cl_some hr
    replace q21 := q21 rfl
    refine HT.cut0 (fun R w => ∃ A : Av, ∃ (s22 : (List (List UInt8))) (uo_u18 : Value), rl20 = s22 ∧ AvOK A w ∧ Fr w0 w ∧ (∀ b o, A0 b o → A b o) ∧ IniOK [ob uo_u18 (.vec w0.heap.size 9 eStr s22), ob ul_u6 (.vec w0.heap.size 9 eStr y12)] A w ∧ R 3 = ul_u6 ∧ R 6 = uo_u18 ∧ R 13 = u7 ∧ R 14 = .int .i64 (p0.length : Int) ∧ R 15 = .int .i64 y11 ∧ Rep (eSl E_impl_Rule) A w u7 p0) ?_ ?_
    ·refine HT.block ?_
     refine HT.loop (fun k R w => ∃ A : Av, ∃ (y23 : Int) (y24 : List (List UInt8)) (ul_u18 : Value), M_impl_FormatRules_L1 fu p0 y11 k y23 y24 = some rl20 ∧ AvOK A w ∧ Fr w0 w ∧ (∀ b o, A0 b o → A b o) ∧ IniOK [ob ul_u18 (.vec w0.heap.size 9 eStr y24), ob ul_u6 (.vec w0.heap.size 9 eStr y12)] A w ∧ R 3 = ul_u6 ∧ R 6 = ul_u18 ∧ R 13 = u7 ∧ R 14 = .int .i64 (p0.length : Int) ∧ R 15 = .int .i64 y11 ∧ R 20 = u19 ∧ R 21 = .int .i64 ((gtD p0 y11).length : Int) ∧ R 22 = .int .i64 y23 ∧ Rep (eSl E_impl_Test) A w u19 (gtD p0 y11) ∧ Rep (eSl E_impl_Rule) A w u7 p0) fu ⟨_, _, _, u18, q21, hA, hF, hAA, hO, h3, h6, h13, h14, h15, h20, h21, h22, f_u19, f_u7⟩ ?_
     have hr0 := hr; clear hr q21
     rintro k R w ⟨A, y23, y24, ul_u18, hr, hA, hF, hAA, hO, h3, h6, h13, h14, h15, h20, h21, h22, f_u19, f_u7⟩
     rcases k with _ | k
     ·cases (show none = some _ from hr)
     rw [M_impl_FormatRules_L1] at hr
     refine HT.seq ?_
     refine HT.text (l := ⟨_, true, .raw (.bool (decide (y23 < ((gtD p0 y11).length : Int))))⟩ :: []) (tl := []) (by kernel_rfl) (by kernel_rfl) (by kernel_rfl) ?_ ?_
     ·exact
       Obls.p (fun R' w' hw hs hd => of_lss ((hs 22 rfl).trans h22) ((hs 21 rfl).trans h21)) <|
       Obls.nil
     intro R w hw hs hF'
     replace h3 := (hs 3 rfl).trans h3
     replace h6 := (hs 6 rfl).trans h6
     replace h13 := (hs 13 rfl).trans h13
     replace h14 := (hs 14 rfl).trans h14
     replace h15 := (hs 15 rfl).trans h15
     replace h20 := (hs 20 rfl).trans h20
     replace h21 := (hs 21 rfl).trans h21
     replace h22 := (hs 22 rfl).trans h22
     have h23 : R 23 = .bool (decide (y23 < ((gtD p0 y11).length : Int))) := hF' 0 _ _ rfl rfl rfl
     replace f_u19 := f_u19.fr hw
     replace f_u7 := f_u7.fr hw
     replace hO := hO.fr hw
     replace hA := hA.fr hw.size
     replace hF := hF.trans hw
     clear hs hF' hw
     refine seqR_nil ?_
     refine HT.seq ?_
     refine HT.cond (decide (y23 < ((gtD p0 y11).length : Int))) h23 (fun c25 => ?_) (fun c25 => ?_)
     ·have hr := cnd_t c25 hr
      refine HT.skip ?_
      refine HT.seq ?_
      refine HT.block ?_
      refine HT.seq ?_
      obtain ⟨e26, hr⟩ := ck_some hr
      refine HT.textR [ob ul_u18 (.vec w0.heap.size 9 eStr y24), ob ul_u6 (.vec w0.heap.size 9 eStr y12)] (⟨_, true, [], none, true, fun A => .qtr E_impl_Test A (gtD (gtD p0 y11) y23)⟩ :: ⟨_, true, [], none, true, fun A => .rep E_impl_Test A (gtD (gtD p0 y11) y23)⟩ :: ⟨_, true, [], some (.box w0.heap.size 67 E_impl_Test ((0 : Int), ((0 : Int), false))), true, fun A => .any⟩ :: ⟨_, true, [4], some (.box w0.heap.size 67 E_impl_Test (gtD (gtD p0 y11) y23)), false, fun A => .any⟩ :: []) (by kernel_rfl) (by kernel_rfl) (Wf.mk' (by kernel_rfl) (UAll.cons ust_qtr (UAll.cons ust_rep (UAll.cons ust_any (UAll.cons ust_any (UAll.nil))))) (by kernel_rfl) (by kernel_rfl)) hO hA ?_ ?_
      ·exact
        OblsR.p (fun A' R' w' ho hd => by have ra0 := (f_u19.stp ho.stp).eq ((ho.old 20 rfl).trans h20); exact of_indexAddr ra0 ((ho.old 22 rfl).trans h22) Tryd.underlying71 Tryd.sizeOf67 e26) <|
        OblsR.p (fun A' R' w' ho hd => by have a0 : QRep E_impl_Test A' w' (R' 24) (gtD (gtD p0 y11) y23) := hd.g 0 rfl; exact (of_load a0.ptr Tryd.isAgg67 Tryd.sizeOf67)) <|
        OblsR.cons (OblR.made _ rfl rfl rfl rfl fun A' R' w' ho hd => by exact made_alloc Tryd.zeroValue67 (fun A w => rep_pr rep1_int (rep_pr rep1_int rep1_bool)) (Nat.le_trans hF.size ho.ch.size)) <|
        OblsR.cons (OblR.took 4 _ _ rfl rfl rfl rfl rfl fun A' R' w' ho hd u hok hav hin hop hds => by have a1 : Rep E_impl_Test A' w' (R' 25) (gtD (gtD p0 y11) y23) := hd.g 1 rfl; obtain ⟨b, hb, hB', hbx⟩ := hok; have hop' := hop _ _ rfl rfl rfl rfl; exact took_store a1 (hop'.symm.trans hb) hb ⟨b, hb, hB', hbx⟩ hav (FldS.id _) Tryd.sizeOf67 rfl) <|
        OblsR.nil
      intro done ρ σ A R w hdn hI
      replace h3 : R 3 = ul_u6 := (hI.reg rfl).trans h3
      replace h6 : R 6 = ul_u18 := (hI.reg rfl).trans h6
      replace h13 : R 13 = u7 := (hI.reg rfl).trans h13
      replace h14 : R 14 = .int .i64 (p0.length : Int) := (hI.reg rfl).trans h14
      replace h15 : R 15 = .int .i64 y11 := (hI.reg rfl).trans h15
      replace h20 : R 20 = u19 := (hI.reg rfl).trans h20
      replace h21 : R 21 = .int .i64 ((gtD p0 y11).length : Int) := (hI.reg rfl).trans h21
      replace h22 : R 22 = .int .i64 y23 := (hI.reg rfl).trans h22
      have z27 := hI.inivR 0 rfl
      have z28 := hI.inivR 1 rfl
      obtain ⟨b8_28, e_b8_28⟩ := hI.boxv hdn 5 rfl rfl
      have z30 := (hI.opnR hdn 5 3 rfl rfl rfl rfl rfl).symm.trans e_b8_28
      have h8 : R 8 = (.pointer (some ⟨b8_28, 0, none⟩)) := (hI.opvR hdn 4 2 rfl rfl rfl rfl rfl).symm.trans z30
      replace f_u19 := f_u19.stp hI.stp
      replace f_u7 := f_u7.stp hI.stp
      replace hAA := hI.low' hAA hA0 (hO.ge (⟨rfl, ⟨rfl, trivial⟩⟩))
      replace hF : Fr w0 w := hF.tr hI.ch (hO.ge (⟨rfl, ⟨rfl, trivial⟩⟩))
      replace hO : IniOK [ob ul_u18 (.vec w0.heap.size 9 eStr y24), ob ul_u6 (.vec w0.heap.size 9 eStr y12), ob (.pointer (some ⟨b8_28, 0, none⟩)) (.box w0.heap.size 67 E_impl_Test (gtD (gtD p0 y11) y23))] A w := hI.left hdn [(0, ob ul_u18 (.vec w0.heap.size 9 eStr y24)), (1, ob ul_u6 (.vec w0.heap.size 9 eStr y12)), (5, ob (.pointer (some ⟨b8_28, 0, none⟩)) (.box w0.heap.size 67 E_impl_Test (gtD (gtD p0 y11) y23)))] ⟨rfl, rfl, z27, rfl, rfl, ⟨rfl, rfl, z28, rfl, rfl, ⟨rfl, rfl, e_b8_28, rfl, rfl, trivial⟩⟩⟩
      replace hA := hI.avok
      clear hI
      obtain ⟨x31, q32, hr⟩ := cl_some hr
      obtain ⟨e33, hr⟩ := ck_some hr
      refine HT.textR [ob ul_u18 (.vec w0.heap.size 9 eStr y24), ob ul_u6 (.vec w0.heap.size 9 eStr y12), ob (.pointer (some ⟨b8_28, 0, none⟩)) (.box w0.heap.size 67 E_impl_Test (gtD (gtD p0 y11) y23))] (⟨_, true, [], none, true, fun A => .raw ul_u18⟩ :: ⟨_, true, [], none, true, fun A => .rep E_impl_Test A (gtD (gtD p0 y11) y23)⟩ :: ⟨_, true, [], none, true, fun A => .rep eStr A x31⟩ :: ⟨_, true, [], none, true, fun A => .rep (eSl eStr) A ([x31] : List (List UInt8))⟩ :: ⟨_, true, [0], some (.vec w0.heap.size 9 eStr (y24 ++ ([x31] : List (List UInt8)))), true, fun A => .any⟩ :: ⟨_, true, [7], some (.vec w0.heap.size 9 eStr (y24 ++ ([x31] : List (List UInt8)))), true, fun A => .any⟩ :: []) (by kernel_rfl) (by kernel_rfl) (Wf.mk' (by kernel_rfl) (UAll.cons ust_raw (UAll.cons ust_rep (UAll.cons ust_rep (UAll.cons ust_rep (UAll.cons ust_any (UAll.cons ust_any (UAll.nil))))))) (by kernel_rfl) (by kernel_rfl)) hO hA ?_ ?_
      ·exact
        OblsR.p (fun A' R' w' ho hd => of_move ((ho.old 6 rfl).trans h6)) <|
        OblsR.p (fun A' R' w' ho hd => (of_load_box (ho.rd 2 _ rfl rfl) ((ho.old 8 rfl).trans h8) (Fld.id _) rfl Tryd.isAgg67 Tryd.sizeOf67)) <|
        OblsR.p (fun A' R' w' ho hd => by have a0 : Rep E_impl_Test A' w' (R' 27) (gtD (gtD p0 y11) y23) := hd.g 0 rfl; exact of_call Tryd.call40 (M_impl_testText_ok (q32 rfl) ho.av (hG0.fr (hF.tr ho.ch (hO.ge (⟨rfl, ⟨rfl, ⟨rfl, trivial⟩⟩⟩)))) a0)) <|
        OblsR.p (fun A' R' w' ho hd => by have a0 : Rep eStr A' w' (R' 28) x31 := hd.g 0 rfl; exact of_build [_] (E := eStr) ⟨a0, trivial⟩ Tryd.underlying57 Tryd.sizeOf9 Tryd.zeroValue9 rfl rfl rfl ho.av) <|
        OblsR.cons (OblR.took 0 _ _ rfl rfl rfl rfl rfl fun A' R' w' ho hd u hok hav hin hop hds => by have a0 : R' 26 = ul_u18 := hd.g 0 rfl; have a1 : Rep (eSl eStr) A' w' (R' 29) ([x31] : List (List UInt8)) := hd.g 1 rfl; exact took_append (a0.trans (hin _ rfl).symm) hok hav (Nat.le_trans hF.size ho.ch.size) a1 Tryd.underlying57 el_9 e33) <|
        OblsR.cons (OblR.took 7 _ _ rfl rfl rfl rfl rfl fun A' R' w' ho hd u hok hav hin hop hds => by exact took_assign (hop _ _ rfl rfl rfl rfl).symm hok hav) <|
        OblsR.nil
      intro done ρ σ A R w hdn hI
      replace h3 : R 3 = ul_u6 := (hI.reg rfl).trans h3
      replace h13 : R 13 = u7 := (hI.reg rfl).trans h13
      replace h14 : R 14 = .int .i64 (p0.length : Int) := (hI.reg rfl).trans h14
      replace h15 : R 15 = .int .i64 y11 := (hI.reg rfl).trans h15
      replace h20 : R 20 = u19 := (hI.reg rfl).trans h20
      replace h21 : R 21 = .int .i64 ((gtD p0 y11).length : Int) := (hI.reg rfl).trans h21
      replace h22 : R 22 = .int .i64 y23 := (hI.reg rfl).trans h22
      obtain ⟨u34, e_u34⟩ : ∃ u, ρ 8 = u := ⟨_, rfl⟩
      have h6 : R 6 = u34 := (hI.opvR hdn 8 5 rfl rfl rfl rfl rfl).symm.trans e_u34
      have z35 := hI.inivR 1 rfl
      have z36 := hI.inivR 2 rfl
      replace f_u19 := f_u19.stp hI.stp
      replace f_u7 := f_u7.stp hI.stp
      replace hAA := hI.low' hAA hA0 (hO.ge (⟨rfl, ⟨rfl, ⟨rfl, trivial⟩⟩⟩))
      replace hF : Fr w0 w := hF.tr hI.ch (hO.ge (⟨rfl, ⟨rfl, ⟨rfl, trivial⟩⟩⟩))
      replace hO : IniOK [ob u34 (.vec w0.heap.size 9 eStr (y24 ++ ([x31] : List (List UInt8)))), ob ul_u6 (.vec w0.heap.size 9 eStr y12)] A w := hI.left hdn [(8, ob u34 (.vec w0.heap.size 9 eStr (y24 ++ ([x31] : List (List UInt8))))), (1, ob ul_u6 (.vec w0.heap.size 9 eStr y12))] ⟨rfl, rfl, e_u34, rfl, rfl, ⟨rfl, rfl, z35, rfl, rfl, trivial⟩⟩
      replace hA := hI.avok
      clear hI
      obtain ⟨e37, hr⟩ := ck_some hr
      refine HT.text (l := ⟨_, true, .raw (.int .i64 (y23 + (1 : Int)))⟩ :: ⟨_, true, .raw (.int .i64 (y23 + (1 : Int)))⟩ :: []) (tl := []) (by kernel_rfl) (by kernel_rfl) (by kernel_rfl) ?_ ?_
      ·exact
        Obls.p (fun R' w' hw hs hd => of_add ((hs 22 rfl).trans h22) rfl e37) <|
        Obls.p (fun R' w' hw hs hd => by have a0 : R' 31 = .int .i64 (y23 + (1 : Int)) := hd.g 0 rfl; exact of_move a0) <|
        Obls.nil
      intro R w hw hs hF'
      replace h3 := (hs 3 rfl).trans h3
      replace h6 := (hs 6 rfl).trans h6
      replace h13 := (hs 13 rfl).trans h13
      replace h14 := (hs 14 rfl).trans h14
      replace h15 := (hs 15 rfl).trans h15
      replace h20 := (hs 20 rfl).trans h20
      replace h21 := (hs 21 rfl).trans h21
      have h22 : R 22 = .int .i64 (y23 + (1 : Int)) := hF' 1 _ _ rfl rfl rfl
      replace f_u19 := f_u19.fr hw
      replace f_u7 := f_u7.fr hw
      replace hO := hO.fr hw
      replace hA := hA.fr hw.size
      replace hF := hF.trans hw
      clear hs hF' hw
      refine seqR_nil ?_
      exact Exists.intro k (And.intro (Nat.lt_succ_self k) ⟨_, _, _, u34, hr, hA, hF, hAA, hO, h3, h6, h13, h14, h15, h20, h21, h22, f_u19, f_u7⟩)
     ·have hr := cnd_f c25 hr
      refine HT.exit ?_
      obtain rfl := Option.some.inj hr
      exact Exists.intro _ ⟨_, ul_u18, rfl, hA, hF, hAA, hO, h3, h6, h13, h14, h15, f_u7⟩
    rintro R w ⟨A, s22, uo_u18, es, hA, hF, hAA, hO, h3, h6, h13, h14, h15, f_u7⟩
    obtain rfl := es.symm
    obtain ⟨x38, q39, hr⟩ := cl_some hr
    obtain ⟨e40, hr⟩ := ck_some hr
    refine HT.textR [ob uo_u18 (.vec w0.heap.size 9 eStr s22), ob ul_u6 (.vec w0.heap.size 9 eStr y12)] (⟨_, true, [], none, true, fun A => .raw ul_u6⟩ :: ⟨_, true, [], none, true, fun A => .raw uo_u18⟩ :: ⟨_, true, [], none, true, fun A => .rep eStr A x38⟩ :: ⟨_, true, [], none, true, fun A => .rep (eSl eStr) A ([x38] : List (List UInt8))⟩ :: ⟨_, true, [1], some (.vec w0.heap.size 9 eStr (y12 ++ ([x38] : List (List UInt8)))), true, fun A => .any⟩ :: ⟨_, true, [6], some (.vec w0.heap.size 9 eStr (y12 ++ ([x38] : List (List UInt8)))), true, fun A => .any⟩ :: []) (by kernel_rfl) (by kernel_rfl) (Wf.mk' (by kernel_rfl) (UAll.cons ust_raw (UAll.cons ust_raw (UAll.cons ust_rep (UAll.cons ust_rep (UAll.cons ust_any (UAll.cons ust_any (UAll.nil))))))) (by kernel_rfl) (by kernel_rfl)) hO hA ?_ ?_
    ·exact
      OblsR.p (fun A' R' w' ho hd => of_move ((ho.old 3 rfl).trans h3)) <|
      OblsR.p (fun A' R' w' ho hd => of_move ((ho.old 6 rfl).trans h6)) <|
      OblsR.p (fun A' R' w' ho hd => by have a0 : R' 33 = uo_u18 := hd.g 0 rfl; have ra0 := (vec_rep (ho.rd 0 _ rfl rfl) (ho.low' hAA hA0 (hO.ge (⟨rfl, ⟨rfl, trivial⟩⟩))) hA0).eq a0; exact of_call Tryd.call35 (calls_flat (fun _ _ _ _ _ h => h) (M_join_ok (q39 rfl) (hA00.fr ((Nat.le_trans hF.size ho.ch.size))) ra0 ⟨_, rfl, ⟨_, rfl, rfl, by decide⟩⟩))) <|
      OblsR.p (fun A' R' w' ho hd => by have a0 : Rep eStr A' w' (R' 34) x38 := hd.g 0 rfl; exact of_build [_] (E := eStr) ⟨a0, trivial⟩ Tryd.underlying57 Tryd.sizeOf9 Tryd.zeroValue9 rfl rfl rfl ho.av) <|
      OblsR.cons (OblR.took 1 _ _ rfl rfl rfl rfl rfl fun A' R' w' ho hd u hok hav hin hop hds => by have a0 : R' 32 = ul_u6 := hd.g 0 rfl; have a1 : Rep (eSl eStr) A' w' (R' 35) ([x38] : List (List UInt8)) := hd.g 1 rfl; exact took_append (a0.trans (hin _ rfl).symm) hok hav (Nat.le_trans hF.size ho.ch.size) a1 Tryd.underlying57 el_9 e40) <|
      OblsR.cons (OblR.took 6 _ _ rfl rfl rfl rfl rfl fun A' R' w' ho hd u hok hav hin hop hds => by exact took_assign (hop _ _ rfl rfl rfl rfl).symm hok hav) <|
      OblsR.nil
    intro done ρ σ A R w hdn hI
    replace h13 : R 13 = u7 := (hI.reg rfl).trans h13
    replace h14 : R 14 = .int .i64 (p0.length : Int) := (hI.reg rfl).trans h14
    replace h15 : R 15 = .int .i64 y11 := (hI.reg rfl).trans h15
    have z41 := hI.inivR 0 rfl
    obtain ⟨u42, e_u42⟩ : ∃ u, ρ 7 = u := ⟨_, rfl⟩
    have h3 : R 3 = u42 := (hI.opvR hdn 7 5 rfl rfl rfl rfl rfl).symm.trans e_u42
    replace f_u7 := f_u7.stp hI.stp
    replace hAA := hI.low' hAA hA0 (hO.ge (⟨rfl, ⟨rfl, trivial⟩⟩))
    replace hF : Fr w0 w := hF.tr hI.ch (hO.ge (⟨rfl, ⟨rfl, trivial⟩⟩))
    replace hO : IniOK [ob u42 (.vec w0.heap.size 9 eStr (y12 ++ ([x38] : List (List UInt8))))] A w := hI.left hdn [(7, ob u42 (.vec w0.heap.size 9 eStr (y12 ++ ([x38] : List (List UInt8)))))] ⟨rfl, rfl, e_u42, rfl, rfl, trivial⟩
    replace hA := hI.avok
    clear hI
    obtain ⟨e43, hr⟩ := ck_some hr
    refine HT.text (l := ⟨_, true, .raw (.int .i64 (y11 + (1 : Int)))⟩ :: ⟨_, true, .raw (.int .i64 (y11 + (1 : Int)))⟩ :: []) (tl := []) (by kernel_rfl) (by kernel_rfl) (by kernel_rfl) ?_ ?_
    ·exact
      Obls.p (fun R' w' hw hs hd => of_add ((hs 15 rfl).trans h15) rfl e43) <|
      Obls.p (fun R' w' hw hs hd => by have a0 : R' 37 = .int .i64 (y11 + (1 : Int)) := hd.g 0 rfl; exact of_move a0) <|
      Obls.nil
    intro R w hw hs hF'
    replace h3 := (hs 3 rfl).trans h3
    replace h13 := (hs 13 rfl).trans h13
    replace h14 := (hs 14 rfl).trans h14
    have h15 : R 15 = .int .i64 (y11 + (1 : Int)) := hF' 1 _ _ rfl rfl rfl
    replace f_u7 := f_u7.fr hw
    replace hO := hO.fr hw
    replace hA := hA.fr hw.size
    replace hF := hF.trans hw
    clear hs hF' hw
    refine seqR_nil ?_
    exact Exists.intro k (And.intro (Nat.lt_succ_self k) ⟨_, _, _, u42, hr, hA, hF, hAA, hO, h3, h13, h14, h15, f_u7⟩)
   ·have hr := cnd_f c13 hr
    refine HT.exit ?_
    obtain rfl := Option.some.inj hr
    exact Exists.intro _ ⟨_, ul_u6, rfl, hA, hF, hAA, hO, h3⟩
  rintro R w ⟨A, s10, uo_u6, es, hA, hF, hAA, hO, h3⟩
  obtain rfl := es.symm
  refine HT.seq ?_
  obtain ⟨x44, q45, hr⟩ := cl_some hr
  refine HT.text (l := ⟨_, true, .raw uo_u6⟩ :: ⟨_, true, .rep eStr A x44⟩ :: ⟨_, true, .rep eStr A x44⟩ :: []) (tl := []) (by kernel_rfl) (by kernel_rfl) (by kernel_rfl) ?_ ?_
  ·exact
    Obls.p (fun R' w' hw hs hd => of_move ((hs 3 rfl).trans h3)) <|
    Obls.p (fun R' w' hw hs hd => by have a0 : R' 38 = uo_u6 := hd.g 0 rfl; have ra0 := (vec_rep ((hO.fr hw).ok 0 _ rfl).1 hAA hA0).eq a0; exact of_call Tryd.call35 (calls_flat (fun _ _ _ _ _ h => h) (M_join_ok (q45 rfl) (hA00.fr ((Nat.le_trans hF.size hw.size))) ra0 ⟨_, rfl, ⟨_, rfl, rfl, by decide⟩⟩))) <|
    Obls.p (fun R' w' hw hs hd => by have a0 : Rep eStr A w' (R' 39) x44 := hd.g 0 rfl; exact of_assign a0) <|
    Obls.nil
  intro R w hw hs hF'
  obtain ⟨u46, h2, f_u46⟩ : ∃ u, R 2 = u ∧ Rep eStr A w u x44 := ⟨_, rfl, hF' 2 _ _ rfl rfl rfl⟩
  replace hO := hO.fr hw
  replace hO : IniOK [] A w := hO.sub [] trivial
  replace hA := hA.fr hw.size
  replace hF := hF.trans hw
  clear hs hF' hw
  refine seqR_nil ?_
  refine HT.ret ?_
  obtain rfl := Option.some.inj hr
  exact ⟨.inr rfl, [R 2], ⟨rfl, trivial⟩, (f_u46.eq h2).down hAA, hF⟩
def M_laws_eqTest (fu : Nat) (p0 : T_impl_Test) (p1 : T_impl_Test) : Option Bool :=
 bif (p0.1 != p1.1) then (
  some false
 ) else (
  bif (p0.2.1 != p1.2.1) then (
   some false
  ) else (
   bif (p0.2.2 != p1.2.2) then (
    some false
   ) else (
    some true
   )
  )
 )
theorem M_laws_eqTest_ok {fu : Nat} {A0 : Av} {p0 : T_impl_Test} {p1 : T_impl_Test} {r : Bool} (hr : M_laws_eqTest fu p0 p1 = some r) {w : World} {v0 : Value} {v1 : Value} (hA : AvOK A0 w) (h0 : Rep E_impl_Test A0 w v0 p0) (h1 : Rep E_impl_Test A0 w v1 p1) :
  Calls Tryd.prog 98 #[v0, v1] w fun e w' => ∃ v, e = .returned v ∧ (v = .bool r ∧ Fr w w') := by
 unfold M_laws_eqTest at hr
 obtain ⟨w0, hw0⟩ : ∃ w0, w0 = w := ⟨_, rfl⟩
 have hF : Fr w0 w := hw0 ▸ Fr.refl _
 have hA0 : ∀ b o, A0 b o → b < w0.heap.size := fun b o h => hw0 ▸ hA b o h
 have hA00 : AvOK A0 w0 := hA0
 rw [show Fr w = Fr w0 from hw0 ▸ rfl]
 clear hw0
 obtain ⟨A, hAe⟩ : ∃ A, A = A0 := ⟨_, rfl⟩
 have hAA : ∀ b o, A0 b o → A b o := fun b o h => hAe ▸ h
 replace hA : AvOK A w := hAe ▸ hA
 have hO : IniOK [] A w := IniOK.nil
 refine calls_of_HT2 [.tmp 4] Tryd.func98 Tryd.ntmps98 (by decide) rfl rfl (Nat.le_of_ble_eq_true rfl) ?_
 intro R hR
 have f_v0 : Rep E_impl_Test A w v0 p0 := hAe ▸ h0
 replace h0 : R 0 = v0 := hR 0 _ rfl
 have f_v1 : Rep E_impl_Test A w v1 p1 := hAe ▸ h1
 replace h1 : R 1 = v1 := hR 1 _ rfl
 clear hR hAe
 refine HT.seq ?_
 refine HT.textR [] (⟨_, true, [], some (.box w0.heap.size 67 E_impl_Test p0), true, fun A => .any⟩ :: ⟨_, true, [], some (.box w0.heap.size 67 E_impl_Test p1), true, fun A => .any⟩ :: ⟨_, true, [], none, true, fun A => .raw (.bool false)⟩ :: []) (by kernel_rfl) (by kernel_rfl) (Wf.mk' (by kernel_rfl) (UAll.cons ust_any (UAll.cons ust_any (UAll.cons ust_raw (UAll.nil)))) (by kernel_rfl) (by kernel_rfl)) hO hA ?_ ?_
 ·exact
   OblsR.cons (OblR.made _ rfl rfl rfl rfl fun A' R' w' ho hd => by have a0 : R' 0 = v0 := (ho.old 0 rfl).trans h0; have ra0 := (f_v0.stp ho.stp).eq a0; exact made_box ra0 (Nat.le_trans hF.size ho.ch.size)) <|
   OblsR.cons (OblR.made _ rfl rfl rfl rfl fun A' R' w' ho hd => by have a0 : R' 1 = v1 := (ho.old 1 rfl).trans h1; have ra0 := (f_v1.stp ho.stp).eq a0; exact made_box ra0 (Nat.le_trans hF.size ho.ch.size)) <|
   OblsR.p (fun A' R' w' ho hd => of_assign rfl) <|
   OblsR.nil
 intro done ρ σ A R w hdn hI
 obtain ⟨b2_0, e_b2_0⟩ := hI.boxv hdn 0 rfl rfl
 have h2 : R 2 = (.pointer (some ⟨b2_0, 0, none⟩)) := (hI.opvR hdn 0 0 rfl rfl rfl rfl rfl).symm.trans e_b2_0
 obtain ⟨b3_1, e_b3_1⟩ := hI.boxv hdn 1 rfl rfl
 have h3 : R 3 = (.pointer (some ⟨b3_1, 0, none⟩)) := (hI.opvR hdn 1 1 rfl rfl rfl rfl rfl).symm.trans e_b3_1
 replace hAA := hI.low' hAA hA0 (hO.ge (trivial))
 replace hF : Fr w0 w := hF.tr hI.ch (hO.ge (trivial))
 replace hO : IniOK [ob (.pointer (some ⟨b2_0, 0, none⟩)) (.box w0.heap.size 67 E_impl_Test p0), ob (.pointer (some ⟨b3_1, 0, none⟩)) (.box w0.heap.size 67 E_impl_Test p1)] A w := hI.left hdn [(0, ob (.pointer (some ⟨b2_0, 0, none⟩)) (.box w0.heap.size 67 E_impl_Test p0)), (1, ob (.pointer (some ⟨b3_1, 0, none⟩)) (.box w0.heap.size 67 E_impl_Test p1))] ⟨rfl, rfl, e_b2_0, rfl, rfl, ⟨rfl, rfl, e_b3_1, rfl, rfl, trivial⟩⟩
 replace hA := hI.avok
 clear hI
 refine HT.seq ?_
 refine HT.seq ?_
 refine HT.text (l := ⟨_, true, .raw (.pointer (some ⟨b2_0, 0, none⟩))⟩ :: ⟨_, true, .raw (.int .i64 p0.1)⟩ :: ⟨_, true, .raw (.pointer (some ⟨b3_1, 0, none⟩))⟩ :: ⟨_, true, .raw (.int .i64 p1.1)⟩ :: ⟨_, true, .raw (.bool (p0.1 != p1.1))⟩ :: []) (tl := []) (by kernel_rfl) (by kernel_rfl) (by kernel_rfl) ?_ ?_
 ·exact
   Obls.p (fun R' w' hw hs hd => of_fieldAddr_raw ((hs 2 rfl).trans h2) ff_67_0 Tryd.sizeOf3 (by decide) rfl) <|
   Obls.p (fun R' w' hw hs hd => by have a0 : R' 5 = (.pointer (some ⟨b2_0, 0, none⟩)) := hd.g 0 rfl; exact OpF.int (of_load_box ((hO.fr hw).ok 0 _ rfl).1 a0 fl_impl_Test_0 rfl Tryd.isAgg3 Tryd.sizeOf3)) <|
   Obls.p (fun R' w' hw hs hd => of_fieldAddr_raw ((hs 3 rfl).trans h3) ff_67_0 Tryd.sizeOf3 (by decide) rfl) <|
   Obls.p (fun R' w' hw hs hd => by have a0 : R' 7 = (.pointer (some ⟨b3_1, 0, none⟩)) := hd.g 0 rfl; exact OpF.int (of_load_box ((hO.fr hw).ok 1 _ rfl).1 a0 fl_impl_Test_0 rfl Tryd.isAgg3 Tryd.sizeOf3)) <|
   Obls.p (fun R' w' hw hs hd => by have a0 : R' 6 = .int .i64 p0.1 := hd.g 0 rfl; have a1 : R' 8 = .int .i64 p1.1 := hd.g 1 rfl; exact of_neq a0 a1) <|
   Obls.nil
 intro R w hw hs hF'
 replace h2 := (hs 2 rfl).trans h2
 replace h3 := (hs 3 rfl).trans h3
 have h9 : R 9 = .bool (p0.1 != p1.1) := hF' 4 _ _ rfl rfl rfl
 replace hO := hO.fr hw
 replace hA := hA.fr hw.size
 replace hF := hF.trans hw
 clear hs hF' hw
 refine seqR_nil ?_
 refine HT.cond (p0.1 != p1.1) h9 (fun c3 => ?_) (fun c3 => ?_)
 ·have hr := cnd_t c3 hr
  refine HT.seq ?_
  refine HT.text (l := ⟨_, true, .raw (.bool false)⟩ :: []) (tl := []) (by kernel_rfl) (by kernel_rfl) (by kernel_rfl) ?_ ?_
  ·exact
    Obls.p (fun R' w' hw hs hd => of_assign rfl) <|
    Obls.nil
  intro R w hw hs hF'
  have h4 : R 4 = .bool false := hF' 0 _ _ rfl rfl rfl
  replace hO := hO.fr hw
  replace hO : IniOK [] A w := hO.sub [] trivial
  replace hA := hA.fr hw.size
  replace hF := hF.trans hw
  clear hs hF' hw
  refine seqR_nil ?_
  refine HT.ret ?_
  obtain rfl := Option.some.inj hr
  exact ⟨.inr rfl, [R 4], ⟨rfl, trivial⟩, h4, hF⟩
 ·have hr := cnd_f c3 hr
  refine HT.skip ?_
  refine HT.seq ?_
  refine HT.seq ?_
  refine HT.text (l := ⟨_, true, .raw (.pointer (some ⟨b2_0, 1, none⟩))⟩ :: ⟨_, true, .raw (.int .i64 p0.2.1)⟩ :: ⟨_, true, .raw (.pointer (some ⟨b3_1, 1, none⟩))⟩ :: ⟨_, true, .raw (.int .i64 p1.2.1)⟩ :: ⟨_, true, .raw (.bool (p0.2.1 != p1.2.1))⟩ :: []) (tl := []) (by kernel_rfl) (by kernel_rfl) (by kernel_rfl) ?_ ?_
  ·exact
    Obls.p (fun R' w' hw hs hd => of_fieldAddr_raw ((hs 2 rfl).trans h2) ff_67_1 Tryd.sizeOf3 (by decide) rfl) <|
    Obls.p (fun R' w' hw hs hd => by have a0 : R' 10 = (.pointer (some ⟨b2_0, 1, none⟩)) := hd.g 0 rfl; exact OpF.int (of_load_box ((hO.fr hw).ok 0 _ rfl).1 a0 fl_impl_Test_1 rfl Tryd.isAgg3 Tryd.sizeOf3)) <|
    Obls.p (fun R' w' hw hs hd => of_fieldAddr_raw ((hs 3 rfl).trans h3) ff_67_1 Tryd.sizeOf3 (by decide) rfl) <|
    Obls.p (fun R' w' hw hs hd => by have a0 : R' 12 = (.pointer (some ⟨b3_1, 1, none⟩)) := hd.g 0 rfl; exact OpF.int (of_load_box ((hO.fr hw).ok 1 _ rfl).1 a0 fl_impl_Test_1 rfl Tryd.isAgg3 Tryd.sizeOf3)) <|
    Obls.p (fun R' w' hw hs hd => by have a0 : R' 11 = .int .i64 p0.2.1 := hd.g 0 rfl; have a1 : R' 13 = .int .i64 p1.2.1 := hd.g 1 rfl; exact of_neq a0 a1) <|
    Obls.nil
  intro R w hw hs hF'
  replace h2 := (hs 2 rfl).trans h2
  replace h3 := (hs 3 rfl).trans h3
  have h14 : R 14 = .bool (p0.2.1 != p1.2.1) := hF' 4 _ _ rfl rfl rfl
  replace hO := hO.fr hw
  replace hA := hA.fr hw.size
  replace hF := hF.trans hw
  clear hs hF' hw
  refine seqR_nil ?_
  refine HT.cond (p0.2.1 != p1.2.1) h14 (fun c4 => ?_) (fun c4 => ?_)
  ·have hr := cnd_t c4 hr
   refine HT.seq ?_
   refine HT.text (l := ⟨_, true, .raw (.bool false)⟩ :: []) (tl := []) (by kernel_rfl) (by kernel_rfl) (by kernel_rfl) ?_ ?_
   ·exact
     Obls.p (fun R' w' hw hs hd => of_assign rfl) <|
     Obls.nil
   intro R w hw hs hF'
   have h4 : R 4 = .bool false := hF' 0 _ _ rfl rfl rfl
   replace hO := hO.fr hw
   replace hO : IniOK [] A w := hO.sub [] trivial
   replace hA := hA.fr hw.size
   replace hF := hF.trans hw
   clear hs hF' hw
   refine seqR_nil ?_
   refine HT.ret ?_
   obtain rfl := Option.some.inj hr
   exact ⟨.inr rfl, [R 4], ⟨rfl, trivial⟩, h4, hF⟩
  ·have hr := cnd_f c4 hr
   refine HT.skip ?_
   refine HT.seq ?_
   refine HT.seq ?_
   refine HT.text (l := ⟨_, true, .raw (.pointer (some ⟨b2_0, 2, none⟩))⟩ :: ⟨_, true, .raw (.bool p0.2.2)⟩ :: ⟨_, true, .raw (.pointer (some ⟨b3_1, 2, none⟩))⟩ :: ⟨_, true, .raw (.bool p1.2.2)⟩ :: ⟨_, true, .raw (.bool (p0.2.2 != p1.2.2))⟩ :: []) (tl := []) (by kernel_rfl) (by kernel_rfl) (by kernel_rfl) ?_ ?_
   ·exact
     Obls.p (fun R' w' hw hs hd => of_fieldAddr_raw ((hs 2 rfl).trans h2) ff_67_2 Tryd.sizeOf4 (by decide) rfl) <|
     Obls.p (fun R' w' hw hs hd => by have a0 : R' 15 = (.pointer (some ⟨b2_0, 2, none⟩)) := hd.g 0 rfl; exact OpF.bool (of_load_box ((hO.fr hw).ok 0 _ rfl).1 a0 fl_impl_Test_2 rfl Tryd.isAgg4 Tryd.sizeOf4)) <|
     Obls.p (fun R' w' hw hs hd => of_fieldAddr_raw ((hs 3 rfl).trans h3) ff_67_2 Tryd.sizeOf4 (by decide) rfl) <|
     Obls.p (fun R' w' hw hs hd => by have a0 : R' 17 = (.pointer (some ⟨b3_1, 2, none⟩)) := hd.g 0 rfl; exact OpF.bool (of_load_box ((hO.fr hw).ok 1 _ rfl).1 a0 fl_impl_Test_2 rfl Tryd.isAgg4 Tryd.sizeOf4)) <|
     Obls.p (fun R' w' hw hs hd => by have a0 : R' 16 = .bool p0.2.2 := hd.g 0 rfl; have a1 : R' 18 = .bool p1.2.2 := hd.g 1 rfl; exact of_bneq Tryd.underlying4 a0 a1) <|
     Obls.nil
   intro R w hw hs hF'
   have h19 : R 19 = .bool (p0.2.2 != p1.2.2) := hF' 4 _ _ rfl rfl rfl
   replace hO := hO.fr hw
   replace hO : IniOK [] A w := hO.sub [] trivial
   replace hA := hA.fr hw.size
   replace hF := hF.trans hw
   clear hs hF' hw
   refine seqR_nil ?_
   refine HT.cond (p0.2.2 != p1.2.2) h19 (fun c5 => ?_) (fun c5 => ?_)
   ·have hr := cnd_t c5 hr
    refine HT.seq ?_
    refine HT.text (l := ⟨_, true, .raw (.bool false)⟩ :: []) (tl := []) (by kernel_rfl) (by kernel_rfl) (by kernel_rfl) ?_ ?_
    ·exact
      Obls.p (fun R' w' hw hs hd => of_assign rfl) <|
      Obls.nil
    intro R w hw hs hF'
    have h4 : R 4 = .bool false := hF' 0 _ _ rfl rfl rfl
    replace hO := hO.fr hw
    replace hA := hA.fr hw.size
    replace hF := hF.trans hw
    clear hs hF' hw
    refine seqR_nil ?_
    refine HT.ret ?_
    obtain rfl := Option.some.inj hr
    exact ⟨.inr rfl, [R 4], ⟨rfl, trivial⟩, h4, hF⟩
   ·have hr := cnd_f c5 hr
    refine HT.skip ?_
    refine HT.seq ?_
    refine HT.text (l := ⟨_, true, .raw (.bool true)⟩ :: []) (tl := []) (by kernel_rfl) (by kernel_rfl) (by kernel_rfl) ?_ ?_
    ·exact
      Obls.p (fun R' w' hw hs hd => of_assign rfl) <|
      Obls.nil
    intro R w hw hs hF'
    have h4 : R 4 = .bool true := hF' 0 _ _ rfl rfl rfl
    replace hO := hO.fr hw
    replace hA := hA.fr hw.size
    replace hF := hF.trans hw
    clear hs hF' hw
    refine seqR_nil ?_
    refine HT.ret ?_
    obtain rfl := Option.some.inj hr
    exact ⟨.inr rfl, [R 4], ⟨rfl, trivial⟩, h4, hF⟩
end Go.Proofs.YtjdnomcpepbdaaaDoor
