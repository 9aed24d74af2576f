/- Printed by dec.py: plain functions and the proofs that the code computes them. No statement of the seat is proved here. -/
import Derived.Test.YtjfhlhhobpdneaaG1
namespace Go.Proofs.Ytjfhlhhobpdneaa
open Go.RowKit
set_option linter.unusedVariables false
set_option maxRecDepth 100000
set_option maxHeartbeats 4000000
def M_impl_isThreshold (fu : Nat) (p0 : Int) : Option Bool :=
 cl true (M_impl_within fu p0 (1 : Int) (1000 : Int)) fun x1 =>
 some x1
theorem M_impl_isThreshold_ok {fu : Nat} {A : Av} {p0 : Int} {r : Bool} (hr : M_impl_isThreshold fu p0 = some r) {w : World} {v0 : Value} (hA : AvOK A w) (h0 : v0 = .int .i64 p0) :
  Calls Try.prog 75 #[v0] w fun e w' => ∃ v, e = .returned v ∧ (v = .bool r ∧ Fr w w') := by
 unfold M_impl_isThreshold at hr
 obtain ⟨w0, hw0⟩ : ∃ w0, w0 = w := ⟨_, rfl⟩
 have hF : Fr w0 w := hw0 ▸ Fr.refl _
 rw [show Fr w = Fr w0 from hw0 ▸ rfl]
 clear hw0
 refine calls_of_HT2 [.tmp 2] Try.func75 Try.ntmps75 (by decide) rfl rfl (Nat.le_of_ble_eq_true rfl) ?_
 intro R hR
 replace h0 : R 0 = .int .i64 p0 := (hR 0 _ rfl).trans h0
 clear hR
 refine HT.seq ?_
 refine HT.text (l := ⟨_, true, .raw (.bool false)⟩ :: []) (tl := []) (by kernel_rfl) (by kernel_rfl) (by kernel_rfl) ?_ ?_
 ·exact
   Obls.p (fun R' w' hw hs hd => of_assign rfl) <|
   Obls.nil
 intro R w hw hs hF'
 replace h0 := (hs 0 rfl).trans h0
 replace hA := hA.fr hw.size
 replace hF := hF.trans hw
 clear hs hF' hw
 refine seqR_nil ?_
 refine HT.seq ?_
 obtain ⟨x1, q2, hr⟩ := cl_some hr
 refine HT.text (l := ⟨_, true, .raw (.int .i64 p0)⟩ :: ⟨_, true, .raw (.bool x1)⟩ :: ⟨_, true, .raw (.bool x1)⟩ :: []) (tl := []) (by kernel_rfl) (by kernel_rfl) (by kernel_rfl) ?_ ?_
 ·exact
   Obls.p (fun R' w' hw hs hd => of_move ((hs 0 rfl).trans h0)) <|
   Obls.p (fun R' w' hw hs hd => by have a0 : R' 3 = .int .i64 p0 := hd.g 0 rfl; exact of_call Try.call73 (M_impl_within_ok (q2 rfl) (hA.fr hw.size) a0 rfl rfl)) <|
   Obls.p (fun R' w' hw hs hd => by have a0 : R' 4 = .bool x1 := hd.g 0 rfl; exact of_assign a0) <|
   Obls.nil
 intro R w hw hs hF'
 have h2 : R 2 = .bool x1 := hF' 2 _ _ rfl rfl rfl
 replace hA := hA.fr hw.size
 replace hF := hF.trans hw
 clear hs hF' hw
 refine seqR_nil ?_
 refine HT.ret ?_
 obtain rfl := Option.some.inj hr
 exact ⟨.inr rfl, [R 2], ⟨rfl, trivial⟩, h2, hF⟩
def M_impl_IsValidRules_L1 (fu : Nat) (p0 : T_impl_RuleSet) (y6 : Int) : Nat → Int → Option (Ex Bool Unit)
 | 0, _ => none
 | k + 1, y19 =>
  bif (decide (y19 < ((gtD p0 y6).length : Int))) then (
   ck (inR y19 (gtD p0 y6).length) <|
   cl true (M_impl_isFeature fu ((gtD (gtD p0 y6) y19).1)) fun x26 =>
   cl (true && ((!x26) == false)) (M_impl_isThreshold fu ((gtD (gtD p0 y6) y19).2.1)) fun x28 =>
   bd ((!x26) || (!x28)) fun x30 =>
   ck (!((true && (x30 == false)) && ((decide ((0 : Int) < y19)) == true)) || i64B (y19 - (1 : Int))) <|
   ck (!((true && (x30 == false)) && ((decide ((0 : Int) < y19)) == true)) || inR (y19 - (1 : Int)) (gtD p0 y6).length) <|
   bd ((decide ((0 : Int) < y19)) && (decide (((gtD (gtD p0 y6) y19).1) ≤ ((gtD (gtD p0 y6) (y19 - (1 : Int))).1)))) fun x34 =>
   bd (x30 || x34) fun x36 =>
   bif x36 then (
    some (Ex.ret false)
   ) else (
    ck (i64B (y19 + (1 : Int))) <|
    M_impl_IsValidRules_L1 fu p0 y6 k (y19 + (1 : Int))
   )
  ) else (
   some (Ex.go ())
  )
def M_impl_IsValidRules_L0 (fu : Nat) (p0 : T_impl_RuleSet) : Nat → Int → Option (Ex Bool Unit)
 | 0, _ => none
 | k + 1, y6 =>
  bif (decide (y6 < (p0.length : Int))) then (
   ck (inR y6 p0.length) <|
   cl true (M_impl_within fu ((gtD p0 y6).length : Int) (1 : Int) (3 : Int)) fun x12 =>
   bif (!x12) then (
    some (Ex.ret false)
   ) else (
    cl true (M_impl_IsValidRules_L1 fu p0 y6 fu (0 : Int)) fun rl16 =>
    exM rl16 (fun r => some (Ex.ret r)) fun s18 =>
    ck (i64B (y6 + (1 : Int))) <|
    M_impl_IsValidRules_L0 fu p0 k (y6 + (1 : Int))
   )
  ) else (
   some (Ex.go ())
  )
def M_impl_IsValidRules (fu : Nat) (p0 : T_impl_RuleSet) : Option Bool :=
 cl true (M_impl_IsValidRules_L0 fu p0 fu (0 : Int)) fun rl3 =>
 exM rl3 (fun r => some r) fun s5 =>
 cl true (M_impl_within fu (p0.length : Int) (1 : Int) (3 : Int)) fun x41 =>
 some x41
theorem M_impl_IsValidRules_ok {fu : Nat} {A0 : Av} {p0 : T_impl_RuleSet} {r : Bool} (hr : M_impl_IsValidRules fu p0 = some r) {w : World} {v0 : Value} (hA : AvOK A0 w) (h0 : Rep E_impl_RuleSet A0 w v0 p0) :
  Calls Try.prog 35 #[v0] w fun e w' => ∃ v, e = .returned v ∧ (v = .bool r ∧ Fr w w') := by
 unfold M_impl_IsValidRules at hr
 obtain ⟨w0, hw0⟩ : ∃ w0, w0 = w := ⟨_, rfl⟩
 have hF : Fr w0 w := hw0 ▸ Fr.refl _
 have hA0 : ∀ b o, A0 b o → b < w0.heap.size := fun b o h => hw0 ▸ hA b o h
 have hA00 : AvOK A0 w0 := hA0
 rw [show Fr w = Fr w0 from hw0 ▸ rfl]
 clear hw0
 obtain ⟨A, hAe⟩ : ∃ A, A = A0 := ⟨_, rfl⟩
 have hAA : ∀ b o, A0 b o → A b o := fun b o h => hAe ▸ h
 replace hA : AvOK A w := hAe ▸ hA
 have hO : IniOK [] A w := IniOK.nil
 refine calls_of_HT2 [.tmp 2] Try.func35 Try.ntmps35 (by decide) rfl rfl (Nat.le_of_ble_eq_true rfl) ?_
 intro R hR
 have f_v0 : Rep E_impl_RuleSet A w v0 p0 := hAe ▸ h0
 replace h0 : R 0 = v0 := hR 0 _ rfl
 clear hR hAe
 refine HT.seq ?_
 refine HT.textR [] (⟨_, true, [], some (.box w0.heap.size 62 E_impl_RuleSet p0), true, fun A => .any⟩ :: ⟨_, true, [], none, true, fun A => .raw (.bool false)⟩ :: []) (by kernel_rfl) (by kernel_rfl) (Wf.mk' (by kernel_rfl) (UAll.cons ust_any (UAll.cons ust_raw (UAll.nil))) (by kernel_rfl) (by kernel_rfl)) hO hA ?_ ?_
 ·exact
   OblsR.cons (OblR.made _ rfl rfl rfl rfl fun A' R' w' ho hd => by have a0 : R' 0 = v0 := (ho.old 0 rfl).trans h0; have ra0 := (f_v0.stp ho.stp).eq a0; exact made_box ra0 (Nat.le_trans hF.size ho.ch.size)) <|
   OblsR.p (fun A' R' w' ho hd => of_assign rfl) <|
   OblsR.nil
 intro done ρ σ A R w hdn hI
 obtain ⟨b1_0, e_b1_0⟩ := hI.boxv hdn 0 rfl rfl
 have h1 : R 1 = (.pointer (some ⟨b1_0, 0, none⟩)) := (hI.opvR hdn 0 0 rfl rfl rfl rfl rfl).symm.trans e_b1_0
 replace hAA := hI.low' hAA hA0 (hO.ge (trivial))
 replace hF : Fr w0 w := hF.tr hI.ch (hO.ge (trivial))
 replace hO : IniOK [ob (.pointer (some ⟨b1_0, 0, none⟩)) (.box w0.heap.size 62 E_impl_RuleSet p0)] A w := hI.left hdn [(0, ob (.pointer (some ⟨b1_0, 0, none⟩)) (.box w0.heap.size 62 E_impl_RuleSet p0))] ⟨rfl, rfl, e_b1_0, rfl, rfl, trivial⟩
 replace hA := hI.avok
 clear hI
 refine HT.seq ?_
 refine HT.seq ?_
 refine HT.text (l := ⟨_, true, .raw (.pointer (some ⟨b1_0, 0, none⟩))⟩ :: ⟨_, true, .rep (eSl E_impl_Rule) A p0⟩ :: ⟨_, true, .raw (.int .i64 (p0.length : Int))⟩ :: ⟨_, true, .raw (.int .i64 (0 : Int))⟩ :: []) (tl := []) (by kernel_rfl) (by kernel_rfl) (by kernel_rfl) ?_ ?_
 ·exact
   Obls.p (fun R' w' hw hs hd => of_fieldAddr_raw ((hs 1 rfl).trans h1) ff_62_0 Try.sizeOf60 (by decide) rfl) <|
   Obls.p (fun R' w' hw hs hd => by have a0 : R' 7 = (.pointer (some ⟨b1_0, 0, none⟩)) := hd.g 0 rfl; exact (of_load_box ((hO.fr hw).ok 0 _ rfl).1 a0 fl_impl_RuleSet_0 rfl Try.isAgg60 Try.sizeOf60)) <|
   Obls.p (fun R' w' hw hs hd => by have a0 : Rep (eSl E_impl_Rule) A w' (R' 8) p0 := hd.g 0 rfl; exact of_len_sl (aT := #[]) a0 Try.underlying60) <|
   Obls.p (fun R' w' hw hs hd => of_move rfl) <|
   Obls.nil
 intro R w hw hs hF'
 replace h1 := (hs 1 rfl).trans h1
 obtain ⟨u2, h8, f_u2⟩ : ∃ u, R 8 = u ∧ Rep (eSl E_impl_Rule) A w u p0 := ⟨_, rfl, hF' 1 _ _ rfl rfl rfl⟩
 have h9 : R 9 = .int .i64 (p0.length : Int) := hF' 2 _ _ rfl rfl rfl
 have h10 : R 10 = .int .i64 (0 : Int) := hF' 3 _ _ rfl rfl rfl
 replace hO := hO.fr hw
 replace hA := hA.fr hw.size
 replace hF := hF.trans hw
 clear hs hF' hw
 refine seqR_nil ?_
 obtain ⟨rl3, q4, hr⟩ := cl_some hr
 replace q4 := q4 rfl
 refine HT.cut0 (fun R w => ∃ A : Av, ∃ (s5 : Unit), rl3 = Ex.go s5 ∧ AvOK A w ∧ Fr w0 w ∧ (∀ b o, A0 b o → A b o) ∧ IniOK [ob (.pointer (some ⟨b1_0, 0, none⟩)) (.box w0.heap.size 62 E_impl_RuleSet p0)] A w ∧ R 1 = (.pointer (some ⟨b1_0, 0, none⟩))) ?_ ?_
 ·refine HT.block ?_
  refine HT.loop (fun k R w => ∃ A : Av, ∃ (y6 : Int), M_impl_IsValidRules_L0 fu p0 k y6 = some rl3 ∧ AvOK A w ∧ Fr w0 w ∧ (∀ b o, A0 b o → A b o) ∧ IniOK [ob (.pointer (some ⟨b1_0, 0, none⟩)) (.box w0.heap.size 62 E_impl_RuleSet p0)] A w ∧ R 1 = (.pointer (some ⟨b1_0, 0, none⟩)) ∧ R 8 = u2 ∧ R 9 = .int .i64 (p0.length : Int) ∧ R 10 = .int .i64 y6 ∧ Rep (eSl E_impl_Rule) A w u2 p0) fu ⟨_, _, q4, hA, hF, hAA, hO, h1, h8, h9, h10, f_u2⟩ ?_
  have hr0 := hr; clear hr q4
  rintro k R w ⟨A, y6, hr, hA, hF, hAA, hO, h1, h8, h9, h10, f_u2⟩
  rcases k with _ | k
  ·cases (show none = some _ from hr)
  rw [M_impl_IsValidRules_L0] at hr
  refine HT.seq ?_
  refine HT.text (l := ⟨_, true, .raw (.bool (decide (y6 < (p0.length : Int))))⟩ :: []) (tl := []) (by kernel_rfl) (by kernel_rfl) (by kernel_rfl) ?_ ?_
  ·exact
    Obls.p (fun R' w' hw hs hd => of_lss ((hs 10 rfl).trans h10) ((hs 9 rfl).trans h9)) <|
    Obls.nil
  intro R w hw hs hF'
  replace h1 := (hs 1 rfl).trans h1
  replace h8 := (hs 8 rfl).trans h8
  replace h9 := (hs 9 rfl).trans h9
  replace h10 := (hs 10 rfl).trans h10
  have h11 : R 11 = .bool (decide (y6 < (p0.length : Int))) := hF' 0 _ _ rfl rfl rfl
  replace f_u2 := f_u2.fr hw
  replace hO := hO.fr hw
  replace hA := hA.fr hw.size
  replace hF := hF.trans hw
  clear hs hF' hw
  refine seqR_nil ?_
  refine HT.seq ?_
  refine HT.cond (decide (y6 < (p0.length : Int))) h11 (fun c7 => ?_) (fun c7 => ?_)
  ·have hr := cnd_t c7 hr
   refine HT.skip ?_
   refine HT.seq ?_
   refine HT.block ?_
   refine HT.seq ?_
   obtain ⟨e8, hr⟩ := ck_some hr
   refine HT.textR [ob (.pointer (some ⟨b1_0, 0, none⟩)) (.box w0.heap.size 62 E_impl_RuleSet p0)] (⟨_, true, [], none, true, fun A => .qtr E_impl_Rule A (gtD p0 y6)⟩ :: ⟨_, true, [], none, true, fun A => .rep E_impl_Rule A (gtD p0 y6)⟩ :: ⟨_, true, [], some (.box w0.heap.size 30 E_impl_Rule ([] : List T_impl_Test)), true, fun A => .any⟩ :: ⟨_, true, [3], some (.box w0.heap.size 30 E_impl_Rule (gtD p0 y6)), false, fun A => .any⟩ :: []) (by kernel_rfl) (by kernel_rfl) (Wf.mk' (by kernel_rfl) (UAll.cons ust_qtr (UAll.cons ust_rep (UAll.cons ust_any (UAll.cons ust_any (UAll.nil))))) (by kernel_rfl) (by kernel_rfl)) hO hA ?_ ?_
   ·exact
     OblsR.p (fun A' R' w' ho hd => by have ra0 := (f_u2.stp ho.stp).eq ((ho.old 8 rfl).trans h8); exact of_indexAddr ra0 ((ho.old 10 rfl).trans h10) Try.underlying60 Try.sizeOf30 e8) <|
     OblsR.p (fun A' R' w' ho hd => by have a0 : QRep E_impl_Rule A' w' (R' 12) (gtD p0 y6) := hd.g 0 rfl; exact (of_load a0.ptr Try.isAgg30 Try.sizeOf30)) <|
     OblsR.cons (OblR.made _ rfl rfl rfl rfl fun A' R' w' ho hd => by exact made_alloc Try.zeroValue30 (fun A w => rep1_nil) (Nat.le_trans hF.size ho.ch.size)) <|
     OblsR.cons (OblR.took 3 _ _ rfl rfl rfl rfl rfl fun A' R' w' ho hd u hok hav hin hop hds => by have a1 : Rep E_impl_Rule A' w' (R' 13) (gtD p0 y6) := hd.g 1 rfl; obtain ⟨b, hb, hB', hbx⟩ := hok; have hop' := hop _ _ rfl rfl rfl rfl; exact took_store a1 (hop'.symm.trans hb) hb ⟨b, hb, hB', hbx⟩ hav (FldS.id _) Try.sizeOf30 rfl) <|
     OblsR.nil
   intro done ρ σ A R w hdn hI
   replace h1 : R 1 = (.pointer (some ⟨b1_0, 0, none⟩)) := (hI.reg rfl).trans h1
   replace h8 : R 8 = u2 := (hI.reg rfl).trans h8
   replace h9 : R 9 = .int .i64 (p0.length : Int) := (hI.reg rfl).trans h9
   replace h10 : R 10 = .int .i64 y6 := (hI.reg rfl).trans h10
   have z9 := hI.inivR 0 rfl
   obtain ⟨b4_9, e_b4_9⟩ := hI.boxv hdn 4 rfl rfl
   have z11 := (hI.opnR hdn 4 3 rfl rfl rfl rfl rfl).symm.trans e_b4_9
   have h4 : R 4 = (.pointer (some ⟨b4_9, 0, none⟩)) := (hI.opvR hdn 3 2 rfl rfl rfl rfl rfl).symm.trans z11
   replace f_u2 := f_u2.stp hI.stp
   replace hAA := hI.low' hAA hA0 (hO.ge (⟨rfl, trivial⟩))
   replace hF : Fr w0 w := hF.tr hI.ch (hO.ge (⟨rfl, trivial⟩))
   replace hO : IniOK [ob (.pointer (some ⟨b1_0, 0, none⟩)) (.box w0.heap.size 62 E_impl_RuleSet p0), ob (.pointer (some ⟨b4_9, 0, none⟩)) (.box w0.heap.size 30 E_impl_Rule (gtD p0 y6))] A w := hI.left hdn [(0, ob (.pointer (some ⟨b1_0, 0, none⟩)) (.box w0.heap.size 62 E_impl_RuleSet p0)), (4, ob (.pointer (some ⟨b4_9, 0, none⟩)) (.box w0.heap.size 30 E_impl_Rule (gtD p0 y6)))] ⟨rfl, rfl, z9, rfl, rfl, ⟨rfl, rfl, e_b4_9, rfl, rfl, trivial⟩⟩
   replace hA := hI.avok
   clear hI
   refine HT.seq ?_
   refine HT.seq ?_
   obtain ⟨x12, q13, hr⟩ := cl_some hr
   refine HT.text (l := ⟨_, true, .raw (.pointer (some ⟨b4_9, 0, none⟩))⟩ :: ⟨_, true, .rep (eSl E_impl_Test) A (gtD p0 y6)⟩ :: ⟨_, true, .raw (.int .i64 ((gtD p0 y6).length : Int))⟩ :: ⟨_, true, .raw (.bool x12)⟩ :: ⟨_, true, .raw (.bool (!x12))⟩ :: []) (tl := []) (by kernel_rfl) (by kernel_rfl) (by kernel_rfl) ?_ ?_
   ·exact
     Obls.p (fun R' w' hw hs hd => of_fieldAddr_raw ((hs 4 rfl).trans h4) ff_30_0 Try.sizeOf28 (by decide) rfl) <|
     Obls.p (fun R' w' hw hs hd => by have a0 : R' 14 = (.pointer (some ⟨b4_9, 0, none⟩)) := hd.g 0 rfl; exact (of_load_box ((hO.fr hw).ok 1 _ rfl).1 a0 fl_impl_Rule_0 rfl Try.isAgg28 Try.sizeOf28)) <|
     Obls.p (fun R' w' hw hs hd => by have a0 : Rep (eSl E_impl_Test) A w' (R' 15) (gtD p0 y6) := hd.g 0 rfl; exact of_len_sl (aT := #[]) a0 Try.underlying28) <|
     Obls.p (fun R' w' hw hs hd => by have a0 : R' 16 = .int .i64 ((gtD p0 y6).length : Int) := hd.g 0 rfl; exact of_call Try.call73 (M_impl_within_ok (q13 rfl) (hA.fr hw.size) a0 rfl rfl)) <|
     Obls.p (fun R' w' hw hs hd => by have a0 : R' 17 = .bool x12 := hd.g 0 rfl; exact of_not a0) <|
     Obls.nil
   intro R w hw hs hF'
   replace h1 := (hs 1 rfl).trans h1
   replace h4 := (hs 4 rfl).trans h4
   replace h8 := (hs 8 rfl).trans h8
   replace h9 := (hs 9 rfl).trans h9
   replace h10 := (hs 10 rfl).trans h10
   have h18 : R 18 = .bool (!x12) := hF' 4 _ _ rfl rfl rfl
   replace f_u2 := f_u2.fr hw
   replace hO := hO.fr hw
   replace hA := hA.fr hw.size
   replace hF := hF.trans hw
   clear hs hF' hw
   refine seqR_nil ?_
   refine HT.cond (!x12) h18 (fun c14 => ?_) (fun c14 => ?_)
   ·have hr := cnd_t c14 hr
    refine HT.seq ?_
    refine HT.text (l := ⟨_, true, .raw (.bool false)⟩ :: []) (tl := []) (by kernel_rfl) (by kernel_rfl) (by kernel_rfl) ?_ ?_
    ·exact
      Obls.p (fun R' w' hw hs hd => of_assign rfl) <|
      Obls.nil
    intro R w hw hs hF'
    have h2 : R 2 = .bool false := hF' 0 _ _ rfl rfl rfl
    replace hO := hO.fr hw
    replace hO : IniOK [] A w := hO.sub [] trivial
    replace hA := hA.fr hw.size
    replace hF := hF.trans hw
    clear hs hF' hw
    refine seqR_nil ?_
    refine HT.ret ?_
    obtain rfl := Option.some.inj hr
    have hr := hr0
    replace hr : some _ = some _ := hr
    obtain rfl := Option.some.inj hr
    exact ⟨.inr rfl, [R 2], ⟨rfl, trivial⟩, h2, hF⟩
   ·have hr := cnd_f c14 hr
    refine HT.skip ?_
    refine HT.seq ?_
    refine HT.text (l := ⟨_, true, .raw (.pointer (some ⟨b4_9, 0, none⟩))⟩ :: ⟨_, true, .rep (eSl E_impl_Test) A (gtD p0 y6)⟩ :: ⟨_, true, .raw (.int .i64 ((gtD p0 y6).length : Int))⟩ :: ⟨_, true, .raw (.int .i64 (0 : Int))⟩ :: []) (tl := []) (by kernel_rfl) (by kernel_rfl) (by kernel_rfl) ?_ ?_
    ·exact
      Obls.p (fun R' w' hw hs hd => of_fieldAddr_raw ((hs 4 rfl).trans h4) ff_30_0 Try.sizeOf28 (by decide) rfl) <|
      Obls.p (fun R' w' hw hs hd => by have a0 : R' 19 = (.pointer (some ⟨b4_9, 0, none⟩)) := hd.g 0 rfl; exact (of_load_box ((hO.fr hw).ok 1 _ rfl).1 a0 fl_impl_Rule_0 rfl Try.isAgg28 Try.sizeOf28)) <|
      Obls.p (fun R' w' hw hs hd => by have a0 : Rep (eSl E_impl_Test) A w' (R' 20) (gtD p0 y6) := hd.g 0 rfl; exact of_len_sl (aT := #[]) a0 Try.underlying28) <|
      Obls.p (fun R' w' hw hs hd => of_move rfl) <|
      Obls.nil
    intro R w hw hs hF'
    replace h1 := (hs 1 rfl).trans h1
    replace h4 := (hs 4 rfl).trans h4
    replace h8 := (hs 8 rfl).trans h8
    replace h9 := (hs 9 rfl).trans h9
    replace h10 := (hs 10 rfl).trans h10
    obtain ⟨u15, h20, f_u15⟩ : ∃ u, R 20 = u ∧ Rep (eSl E_impl_Test) A w u (gtD p0 y6) := ⟨_, rfl, hF' 1 _ _ rfl rfl rfl⟩
    have h21 : R 21 = .int .i64 ((gtD p0 y6).length : Int) := hF' 2 _ _ rfl rfl rfl
    have h22 : R 22 = .int .i64 (0 : Int) := hF' 3 _ _ rfl rfl rfl
    replace f_u2 := f_u2.fr hw
    replace hO := hO.fr hw
    replace hA := hA.fr hw.size
    replace hF := hF.trans hw
    clear hs hF' hw
    refine seqR_nil ?_
    obtain ⟨rl16, q17, hr⟩ := cl_some hr
    replace q17 := q17 rfl
    refine HT.cut0 (fun R w => ∃ A : Av, ∃ (s18 : Unit), rl16 = Ex.go s18 ∧ AvOK A w ∧ Fr w0 w ∧ (∀ b o, A0 b o → A b o) ∧ IniOK [ob (.pointer (some ⟨b1_0, 0, none⟩)) (.box w0.heap.size 62 E_impl_RuleSet p0)] A w ∧ R 1 = (.pointer (some ⟨b1_0, 0, none⟩)) ∧ R 8 = u2 ∧ R 9 = .int .i64 (p0.length : Int) ∧ R 10 = .int .i64 y6 ∧ Rep (eSl E_impl_Rule) A w u2 p0) ?_ ?_
    ·refine HT.block ?_
     refine HT.loop (fun k R w => ∃ A : Av, ∃ (y19 : Int), M_impl_IsValidRules_L1 fu p0 y6 k y19 = some rl16 ∧ AvOK A w ∧ Fr w0 w ∧ (∀ b o, A0 b o → A b o) ∧ IniOK [ob (.pointer (some ⟨b1_0, 0, none⟩)) (.box w0.heap.size 62 E_impl_RuleSet p0), ob (.pointer (some ⟨b4_9, 0, none⟩)) (.box w0.heap.size 30 E_impl_Rule (gtD p0 y6))] A w ∧ R 1 = (.pointer (some ⟨b1_0, 0, none⟩)) ∧ R 4 = (.pointer (some ⟨b4_9, 0, none⟩)) ∧ R 8 = u2 ∧ R 9 = .int .i64 (p0.length : Int) ∧ R 10 = .int .i64 y6 ∧ R 20 = u15 ∧ R 21 = .int .i64 ((gtD p0 y6).length : Int) ∧ R 22 = .int .i64 y19 ∧ Rep (eSl E_impl_Test) A w u15 (gtD p0 y6) ∧ Rep (eSl E_impl_Rule) A w u2 p0) fu ⟨_, _, q17, hA, hF, hAA, hO, h1, h4, h8, h9, h10, h20, h21, h22, f_u15, f_u2⟩ ?_
     have hr1 := hr; clear hr q17
     rintro k R w ⟨A, y19, hr, hA, hF, hAA, hO, h1, h4, h8, h9, h10, h20, h21, h22, f_u15, f_u2⟩
     rcases k with _ | k
     ·cases (show none = some _ from hr)
     rw [M_impl_IsValidRules_L1] at hr
     refine HT.seq ?_
     refine HT.text (l := ⟨_, true, .raw (.bool (decide (y19 < ((gtD p0 y6).length : Int))))⟩ :: []) (tl := []) (by kernel_rfl) (by kernel_rfl) (by kernel_rfl) ?_ ?_
     ·exact
       Obls.p (fun R' w' hw hs hd => of_lss ((hs 22 rfl).trans h22) ((hs 21 rfl).trans h21)) <|
       Obls.nil
     intro R w hw hs hF'
     replace h1 := (hs 1 rfl).trans h1
     replace h4 := (hs 4 rfl).trans h4
     replace h8 := (hs 8 rfl).trans h8
     replace h9 := (hs 9 rfl).trans h9
     replace h10 := (hs 10 rfl).trans h10
     replace h20 := (hs 20 rfl).trans h20
     replace h21 := (hs 21 rfl).trans h21
     replace h22 := (hs 22 rfl).trans h22
     have h23 : R 23 = .bool (decide (y19 < ((gtD p0 y6).length : Int))) := hF' 0 _ _ rfl rfl rfl
     replace f_u15 := f_u15.fr hw
     replace f_u2 := f_u2.fr hw
     replace hO := hO.fr hw
     replace hA := hA.fr hw.size
     replace hF := hF.trans hw
     clear hs hF' hw
     refine seqR_nil ?_
     refine HT.seq ?_
     refine HT.cond (decide (y19 < ((gtD p0 y6).length : Int))) h23 (fun c20 => ?_) (fun c20 => ?_)
     ·have hr := cnd_t c20 hr
      refine HT.skip ?_
      refine HT.seq ?_
      refine HT.block ?_
      refine HT.seq ?_
      obtain ⟨e21, hr⟩ := ck_some hr
      refine HT.textR [ob (.pointer (some ⟨b1_0, 0, none⟩)) (.box w0.heap.size 62 E_impl_RuleSet p0), ob (.pointer (some ⟨b4_9, 0, none⟩)) (.box w0.heap.size 30 E_impl_Rule (gtD p0 y6))] (⟨_, true, [], none, true, fun A => .raw (.int .i64 y19)⟩ :: ⟨_, true, [], none, true, fun A => .qtr E_impl_Test A (gtD (gtD p0 y6) y19)⟩ :: ⟨_, true, [], none, true, fun A => .rep E_impl_Test A (gtD (gtD p0 y6) y19)⟩ :: ⟨_, true, [], some (.box w0.heap.size 85 E_impl_Test ((0 : Int), ((0 : Int), false))), true, fun A => .any⟩ :: ⟨_, true, [], none, true, fun A => .raw (.int .i64 y19)⟩ :: ⟨_, true, [5], some (.box w0.heap.size 85 E_impl_Test (gtD (gtD p0 y6) y19)), false, fun A => .any⟩ :: []) (by kernel_rfl) (by kernel_rfl) (Wf.mk' (by kernel_rfl) (UAll.cons ust_raw (UAll.cons ust_qtr (UAll.cons ust_rep (UAll.cons ust_any (UAll.cons ust_raw (UAll.cons ust_any (UAll.nil))))))) (by kernel_rfl) (by kernel_rfl)) hO hA ?_ ?_
      ·exact
        OblsR.p (fun A' R' w' ho hd => of_move ((ho.old 22 rfl).trans h22)) <|
        OblsR.p (fun A' R' w' ho hd => by have ra0 := (f_u15.stp ho.stp).eq ((ho.old 20 rfl).trans h20); exact of_indexAddr ra0 ((ho.old 22 rfl).trans h22) Try.underlying28 Try.sizeOf85 e21) <|
        OblsR.p (fun A' R' w' ho hd => by have a0 : QRep E_impl_Test A' w' (R' 25) (gtD (gtD p0 y6) y19) := hd.g 0 rfl; exact (of_load a0.ptr Try.isAgg85 Try.sizeOf85)) <|
        OblsR.cons (OblR.made _ rfl rfl rfl rfl fun A' R' w' ho hd => by exact made_alloc Try.zeroValue85 (fun A w => rep_pr rep1_int (rep_pr rep1_int rep1_bool)) (Nat.le_trans hF.size ho.ch.size)) <|
        OblsR.p (fun A' R' w' ho hd => by have a0 : R' 24 = .int .i64 y19 := hd.g 0 rfl; exact of_assign a0) <|
        OblsR.cons (OblR.took 5 _ _ rfl rfl rfl rfl rfl fun A' R' w' ho hd u hok hav hin hop hds => by have a1 : Rep E_impl_Test A' w' (R' 26) (gtD (gtD p0 y6) y19) := hd.g 1 rfl; obtain ⟨b, hb, hB', hbx⟩ := hok; have hop' := hop _ _ rfl rfl rfl rfl; exact took_store a1 (hop'.symm.trans hb) hb ⟨b, hb, hB', hbx⟩ hav (FldS.id _) Try.sizeOf85 rfl) <|
        OblsR.nil
      intro done ρ σ A R w hdn hI
      replace h1 : R 1 = (.pointer (some ⟨b1_0, 0, none⟩)) := (hI.reg rfl).trans h1
      replace h4 : R 4 = (.pointer (some ⟨b4_9, 0, none⟩)) := (hI.reg rfl).trans h4
      replace h8 : R 8 = u2 := (hI.reg rfl).trans h8
      replace h9 : R 9 = .int .i64 (p0.length : Int) := (hI.reg rfl).trans h9
      replace h10 : R 10 = .int .i64 y6 := (hI.reg rfl).trans h10
      replace h20 : R 20 = u15 := (hI.reg rfl).trans h20
      replace h21 : R 21 = .int .i64 ((gtD p0 y6).length : Int) := (hI.reg rfl).trans h21
      replace h22 : R 22 = .int .i64 y19 := (hI.reg rfl).trans h22
      have z22 := hI.inivR 0 rfl
      have z23 := hI.inivR 1 rfl
      obtain ⟨b6_23, e_b6_23⟩ := hI.boxv hdn 7 rfl rfl
      have z25 := (hI.opnR hdn 7 5 rfl rfl rfl rfl rfl).symm.trans e_b6_23
      have h6 : R 6 = (.pointer (some ⟨b6_23, 0, none⟩)) := (hI.opvR hdn 5 3 rfl rfl rfl rfl rfl).symm.trans z25
      have h5 : R 5 = .int .i64 y19 := hI.fact hdn (i := 4) rfl rfl rfl
      replace f_u15 := f_u15.stp hI.stp
      replace f_u2 := f_u2.stp hI.stp
      replace hAA := hI.low' hAA hA0 (hO.ge (⟨rfl, ⟨rfl, trivial⟩⟩))
      replace hF : Fr w0 w := hF.tr hI.ch (hO.ge (⟨rfl, ⟨rfl, trivial⟩⟩))
      replace hO : IniOK [ob (.pointer (some ⟨b1_0, 0, none⟩)) (.box w0.heap.size 62 E_impl_RuleSet p0), ob (.pointer (some ⟨b4_9, 0, none⟩)) (.box w0.heap.size 30 E_impl_Rule (gtD p0 y6)), ob (.pointer (some ⟨b6_23, 0, none⟩)) (.box w0.heap.size 85 E_impl_Test (gtD (gtD p0 y6) y19))] A w := hI.left hdn [(0, ob (.pointer (some ⟨b1_0, 0, none⟩)) (.box w0.heap.size 62 E_impl_RuleSet p0)), (1, ob (.pointer (some ⟨b4_9, 0, none⟩)) (.box w0.heap.size 30 E_impl_Rule (gtD p0 y6))), (7, ob (.pointer (some ⟨b6_23, 0, none⟩)) (.box w0.heap.size 85 E_impl_Test (gtD (gtD p0 y6) y19)))] ⟨rfl, rfl, z22, rfl, rfl, ⟨rfl, rfl, z23, rfl, rfl, ⟨rfl, rfl, e_b6_23, rfl, rfl, trivial⟩⟩⟩
      replace hA := hI.avok
      clear hI
      refine HT.seq ?_
      obtain ⟨x26, q27, hr⟩ := cl_some hr
      obtain ⟨x28, q29, hr⟩ := cl_some hr
      obtain ⟨x30, q31, hr⟩ := bd_some hr
      obtain ⟨e32, hr⟩ := ck_some hr
      obtain ⟨e33, hr⟩ := ck_some hr
      obtain ⟨x34, q35, hr⟩ := bd_some hr
      obtain ⟨x36, q37, hr⟩ := bd_some hr
      refine HT.draw (by kernel_rfl) (l := ⟨_, true, .raw (.pointer (some ⟨b6_23, 0, none⟩))⟩ :: ⟨_, true, .raw (.int .i64 ((gtD (gtD p0 y6) y19).1))⟩ :: ⟨_, true, .raw (.bool x26)⟩ :: ⟨_, true, .raw (.bool (!x26))⟩ :: ⟨_, true, .raw (.bool (!x26))⟩ :: ⟨_, (true && ((!x26) == false)), .raw (.pointer (some ⟨b6_23, 1, none⟩))⟩ :: ⟨_, (true && ((!x26) == false)), .raw (.int .i64 ((gtD (gtD p0 y6) y19).2.1))⟩ :: ⟨_, (true && ((!x26) == false)), .raw (.bool x28)⟩ :: ⟨_, (true && ((!x26) == false)), .raw (.bool (!x28))⟩ :: ⟨_, true, .raw (.bool x30)⟩ :: ⟨_, true, .raw (.bool x30)⟩ :: ⟨_, (true && (x30 == false)), .raw (.int .i64 y19)⟩ :: ⟨_, (true && (x30 == false)), .raw (.bool (decide ((0 : Int) < y19)))⟩ :: ⟨_, (true && (x30 == false)), .raw (.bool (decide ((0 : Int) < y19)))⟩ :: ⟨_, ((true && (x30 == false)) && ((decide ((0 : Int) < y19)) == true)), .raw (.pointer (some ⟨b4_9, 0, none⟩))⟩ :: ⟨_, ((true && (x30 == false)) && ((decide ((0 : Int) < y19)) == true)), .rep (eSl E_impl_Test) A (gtD p0 y6)⟩ :: ⟨_, ((true && (x30 == false)) && ((decide ((0 : Int) < y19)) == true)), .raw (.int .i64 y19)⟩ :: ⟨_, ((true && (x30 == false)) && ((decide ((0 : Int) < y19)) == true)), .raw (.int .i64 (y19 - (1 : Int)))⟩ :: ⟨_, ((true && (x30 == false)) && ((decide ((0 : Int) < y19)) == true)), .qtr E_impl_Test A (gtD (gtD p0 y6) (y19 - (1 : Int)))⟩ :: ⟨_, ((true && (x30 == false)) && ((decide ((0 : Int) < y19)) == true)), .qtr (eInt .i64) A ((gtD (gtD p0 y6) (y19 - (1 : Int))).1)⟩ :: ⟨_, ((true && (x30 == false)) && ((decide ((0 : Int) < y19)) == true)), .raw (.int .i64 ((gtD (gtD p0 y6) (y19 - (1 : Int))).1))⟩ :: ⟨_, ((true && (x30 == false)) && ((decide ((0 : Int) < y19)) == true)), .raw (.pointer (some ⟨b6_23, 0, none⟩))⟩ :: ⟨_, ((true && (x30 == false)) && ((decide ((0 : Int) < y19)) == true)), .raw (.int .i64 ((gtD (gtD p0 y6) y19).1))⟩ :: ⟨_, ((true && (x30 == false)) && ((decide ((0 : Int) < y19)) == true)), .raw (.bool (decide (((gtD (gtD p0 y6) y19).1) ≤ ((gtD (gtD p0 y6) (y19 - (1 : Int))).1))))⟩ :: ⟨_, (true && (x30 == false)), .raw (.bool x34)⟩ :: ⟨_, true, .raw (.bool x36)⟩ :: []) (tl := []) (by kernel_rfl) (by kernel_rfl) (by kernel_rfl) (by kernel_rfl) ?_ ?_
      ·exact
        Obls.p (fun R' w' hw hs hd => of_fieldAddr_raw ((hs 6 rfl).trans h6) ff_85_0 Try.sizeOf3 (by decide) rfl) <|
        Obls.p (fun R' w' hw hs hd => by have a0 : R' 27 = (.pointer (some ⟨b6_23, 0, none⟩)) := hd.g 0 rfl; exact OpF.int (of_load_box ((hO.fr hw).ok 2 _ rfl).1 a0 fl_impl_Test_0 rfl Try.isAgg3 Try.sizeOf3)) <|
        Obls.p (fun R' w' hw hs hd => by have a0 : R' 28 = .int .i64 ((gtD (gtD p0 y6) y19).1) := hd.g 0 rfl; exact of_call Try.call74 (M_impl_isFeature_ok (q27 rfl) (hA.fr hw.size) a0)) <|
        Obls.p (fun R' w' hw hs hd => by have a0 : R' 29 = .bool x26 := hd.g 0 rfl; exact of_not a0) <|
        Obls.p (fun R' w' hw hs hd => by have a0 : R' 30 = .bool (!x26) := hd.g 0 rfl; exact of_move a0) <|
        Obls.cons (Obl.grd 4 false _ _ _ rfl rfl rfl rfl rfl (by kernel_rfl) fun hg R' w' hw hs hd => by have a0 : R' 6 = (.pointer (some ⟨b6_23, 0, none⟩)) := (hs 6 rfl).trans h6; exact of_fieldAddr_raw a0 ff_85_1 Try.sizeOf3 (by decide) rfl) <|
        Obls.cons (Obl.grd 4 false _ _ _ rfl rfl rfl rfl rfl (by kernel_rfl) fun hg R' w' hw hs hd => by have a0 : R' 32 = (.pointer (some ⟨b6_23, 1, none⟩)) := hd 0 _ _ _ rfl rfl rfl rfl hg; exact OpF.int (of_load_box ((hO.fr hw).ok 2 _ rfl).1 a0 fl_impl_Test_1 rfl Try.isAgg3 Try.sizeOf3)) <|
        Obls.cons (Obl.grd 4 false _ _ _ rfl rfl rfl rfl rfl (by kernel_rfl) fun hg R' w' hw hs hd => by have a0 : R' 33 = .int .i64 ((gtD (gtD p0 y6) y19).2.1) := hd 0 _ _ _ rfl rfl rfl rfl hg; exact of_call Try.call75 (M_impl_isThreshold_ok (q29 hg) (hA.fr hw.size) a0)) <|
        Obls.cons (Obl.grd 4 false _ _ _ rfl rfl rfl rfl rfl (by kernel_rfl) fun hg R' w' hw hs hd => by have a0 : R' 34 = .bool x28 := hd 0 _ _ _ rfl rfl rfl rfl hg; exact of_not a0) <|
        Obls.p (fun R' w' hw hs hd => by have a0 : R' 31 = .bool (!x26) := hd.g 0 rfl; exact of_pick (!x26) a0 (fun hc => by show _ = Value.bool x30; rw [q31, hc]; exact rfl) (fun hc => by have a2 : R' 35 = .bool (!x28) := hd 1 _ _ _ rfl rfl rfl rfl (g_and rfl (beq_of hc)); show _ = Value.bool x30; rw [q31, hc]; exact a2)) <|
        Obls.p (fun R' w' hw hs hd => by have a0 : R' 36 = .bool x30 := hd.g 0 rfl; exact of_move a0) <|
        Obls.cons (Obl.grd 10 false _ _ _ rfl rfl rfl rfl rfl (by kernel_rfl) fun hg R' w' hw hs hd => by have a0 : R' 5 = .int .i64 y19 := (hs 5 rfl).trans h5; exact of_move a0) <|
        Obls.cons (Obl.grd 10 false _ _ _ rfl rfl rfl rfl rfl (by kernel_rfl) fun hg R' w' hw hs hd => by have a0 : R' 38 = .int .i64 y19 := hd 0 _ _ _ rfl rfl rfl rfl hg; exact of_gtr a0 rfl) <|
        Obls.cons (Obl.grd 10 false _ _ _ rfl rfl rfl rfl rfl (by kernel_rfl) fun hg R' w' hw hs hd => by have a0 : R' 39 = .bool (decide ((0 : Int) < y19)) := hd 0 _ _ _ rfl rfl rfl rfl hg; exact of_move a0) <|
        Obls.cons (Obl.grd 13 true _ _ _ rfl rfl rfl rfl rfl (by kernel_rfl) fun hg R' w' hw hs hd => by have a0 : R' 4 = (.pointer (some ⟨b4_9, 0, none⟩)) := (hs 4 rfl).trans h4; exact of_fieldAddr_raw a0 ff_30_0 Try.sizeOf28 (by decide) rfl) <|
        Obls.cons (Obl.grd 13 true _ _ _ rfl rfl rfl rfl rfl (by kernel_rfl) fun hg R' w' hw hs hd => by have a0 : R' 41 = (.pointer (some ⟨b4_9, 0, none⟩)) := hd 0 _ _ _ rfl rfl rfl rfl hg; exact (of_load_box ((hO.fr hw).ok 1 _ rfl).1 a0 fl_impl_Rule_0 rfl Try.isAgg28 Try.sizeOf28)) <|
        Obls.cons (Obl.grd 13 true _ _ _ rfl rfl rfl rfl rfl (by kernel_rfl) fun hg R' w' hw hs hd => by have a0 : R' 5 = .int .i64 y19 := (hs 5 rfl).trans h5; exact of_move a0) <|
        Obls.cons (Obl.grd 13 true _ _ _ rfl rfl rfl rfl rfl (by kernel_rfl) fun hg R' w' hw hs hd => by have a0 : R' 43 = .int .i64 y19 := hd 0 _ _ _ rfl rfl rfl rfl hg; exact of_sub a0 rfl (gd e32 hg)) <|
        Obls.cons (Obl.grd 13 true _ _ _ rfl rfl rfl rfl rfl (by kernel_rfl) fun hg R' w' hw hs hd => by have a0 : Rep (eSl E_impl_Test) A w' (R' 42) (gtD p0 y6) := hd 0 _ _ _ rfl rfl rfl rfl hg; have a1 : R' 44 = .int .i64 (y19 - (1 : Int)) := hd 1 _ _ _ rfl rfl rfl rfl hg; exact of_indexAddr a0 a1 Try.underlying28 Try.sizeOf85 (gd e33 hg)) <|
        Obls.cons (Obl.grd 13 true _ _ _ rfl rfl rfl rfl rfl (by kernel_rfl) fun hg R' w' hw hs hd => by have a0 : QRep E_impl_Test A w' (R' 45) (gtD (gtD p0 y6) (y19 - (1 : Int))) := hd 0 _ _ _ rfl rfl rfl rfl hg; exact of_fieldAddr_q a0 ff_85_0 Try.sizeOf3 (by decide) fl_impl_Test_0 rfl) <|
        Obls.cons (Obl.grd 13 true _ _ _ rfl rfl rfl rfl rfl (by kernel_rfl) fun hg R' w' hw hs hd => by have a0 : QRep (eInt .i64) A w' (R' 46) ((gtD (gtD p0 y6) (y19 - (1 : Int))).1) := hd 0 _ _ _ rfl rfl rfl rfl hg; exact OpF.int (of_load a0.ptr Try.isAgg3 Try.sizeOf3)) <|
        Obls.cons (Obl.grd 13 true _ _ _ rfl rfl rfl rfl rfl (by kernel_rfl) fun hg R' w' hw hs hd => by have a0 : R' 6 = (.pointer (some ⟨b6_23, 0, none⟩)) := (hs 6 rfl).trans h6; exact of_fieldAddr_raw a0 ff_85_0 Try.sizeOf3 (by decide) rfl) <|
        Obls.cons (Obl.grd 13 true _ _ _ rfl rfl rfl rfl rfl (by kernel_rfl) fun hg R' w' hw hs hd => by have a0 : R' 48 = (.pointer (some ⟨b6_23, 0, none⟩)) := hd 0 _ _ _ rfl rfl rfl rfl hg; exact OpF.int (of_load_box ((hO.fr hw).ok 2 _ rfl).1 a0 fl_impl_Test_0 rfl Try.isAgg3 Try.sizeOf3)) <|
        Obls.cons (Obl.grd 13 true _ _ _ rfl rfl rfl rfl rfl (by kernel_rfl) fun hg R' w' hw hs hd => by have a0 : R' 47 = .int .i64 ((gtD (gtD p0 y6) (y19 - (1 : Int))).1) := hd 0 _ _ _ rfl rfl rfl rfl hg; have a1 : R' 49 = .int .i64 ((gtD (gtD p0 y6) y19).1) := hd 1 _ _ _ rfl rfl rfl rfl hg; exact of_geq a0 a1) <|
        Obls.cons (Obl.grd 10 false _ _ _ rfl rfl rfl rfl rfl (by kernel_rfl) fun hg R' w' hw hs hd => by have a0 : R' 40 = .bool (decide ((0 : Int) < y19)) := hd 0 _ _ _ rfl rfl rfl rfl hg; exact of_pick (decide ((0 : Int) < y19)) a0 (fun hc => by have a1 : R' 50 = .bool (decide (((gtD (gtD p0 y6) y19).1) ≤ ((gtD (gtD p0 y6) (y19 - (1 : Int))).1))) := hd 1 _ _ _ rfl rfl rfl rfl (g_and hg (beq_of hc)); show _ = Value.bool x34; rw [q35, hc]; exact a1) (fun hc => by show _ = Value.bool x34; rw [q35, hc]; exact rfl)) <|
        Obls.p (fun R' w' hw hs hd => by have a0 : R' 37 = .bool x30 := hd.g 0 rfl; exact of_pick x30 a0 (fun hc => by show _ = Value.bool x36; rw [q37, hc]; exact rfl) (fun hc => by have a2 : R' 51 = .bool x34 := hd 1 _ _ _ rfl rfl rfl rfl (g_and rfl (beq_of hc)); show _ = Value.bool x36; rw [q37, hc]; exact a2)) <|
        Obls.nil
      intro R w hw hs hF'
      replace h1 := (hs 1 rfl).trans h1
      replace h4 := (hs 4 rfl).trans h4
      replace h8 := (hs 8 rfl).trans h8
      replace h9 := (hs 9 rfl).trans h9
      replace h10 := (hs 10 rfl).trans h10
      replace h20 := (hs 20 rfl).trans h20
      replace h21 := (hs 21 rfl).trans h21
      replace h22 := (hs 22 rfl).trans h22
      have h52 : R 52 = .bool x36 := hF' 25 _ _ rfl rfl rfl
      replace f_u15 := f_u15.fr hw
      replace f_u2 := f_u2.fr hw
      replace hO := hO.fr hw
      replace hO : IniOK [ob (.pointer (some ⟨b1_0, 0, none⟩)) (.box w0.heap.size 62 E_impl_RuleSet p0), ob (.pointer (some ⟨b4_9, 0, none⟩)) (.box w0.heap.size 30 E_impl_Rule (gtD p0 y6))] A w := hO.sub [(0, ob (.pointer (some ⟨b1_0, 0, none⟩)) (.box w0.heap.size 62 E_impl_RuleSet p0)), (1, ob (.pointer (some ⟨b4_9, 0, none⟩)) (.box w0.heap.size 30 E_impl_Rule (gtD p0 y6)))] ⟨rfl, rfl, ⟨rfl, rfl, trivial⟩⟩
      replace hA := hA.fr hw.size
      replace hF := hF.trans hw
      clear hs hF' hw
      refine seqR_nil ?_
      refine HT.cond x36 h52 (fun c38 => ?_) (fun c38 => ?_)
      ·have hr := cnd_t c38 hr
       refine HT.seq ?_
       refine HT.text (l := ⟨_, true, .raw (.bool false)⟩ :: []) (tl := []) (by kernel_rfl) (by kernel_rfl) (by kernel_rfl) ?_ ?_
       ·exact
         Obls.p (fun R' w' hw hs hd => of_assign rfl) <|
         Obls.nil
       intro R w hw hs hF'
       have h2 : R 2 = .bool false := hF' 0 _ _ rfl rfl rfl
       replace hO := hO.fr hw
       replace hO : IniOK [] A w := hO.sub [] trivial
       replace hA := hA.fr hw.size
       replace hF := hF.trans hw
       clear hs hF' hw
       refine seqR_nil ?_
       refine HT.ret ?_
       obtain rfl := Option.some.inj hr
       have hr := hr1
       replace hr : some _ = some _ := hr
       obtain rfl := Option.some.inj hr
       have hr := hr0
       replace hr : some _ = some _ := hr
       obtain rfl := Option.some.inj hr
       exact ⟨.inr rfl, [R 2], ⟨rfl, trivial⟩, h2, hF⟩
      ·have hr := cnd_f c38 hr
       refine HT.skip ?_
       obtain ⟨e39, hr⟩ := ck_some hr
       refine HT.text (l := ⟨_, true, .raw (.int .i64 (y19 + (1 : Int)))⟩ :: ⟨_, true, .raw (.int .i64 (y19 + (1 : Int)))⟩ :: []) (tl := []) (by kernel_rfl) (by kernel_rfl) (by kernel_rfl) ?_ ?_
       ·exact
         Obls.p (fun R' w' hw hs hd => of_add ((hs 22 rfl).trans h22) rfl e39) <|
         Obls.p (fun R' w' hw hs hd => by have a0 : R' 53 = .int .i64 (y19 + (1 : Int)) := hd.g 0 rfl; exact of_move a0) <|
         Obls.nil
       intro R w hw hs hF'
       replace h1 := (hs 1 rfl).trans h1
       replace h4 := (hs 4 rfl).trans h4
       replace h8 := (hs 8 rfl).trans h8
       replace h9 := (hs 9 rfl).trans h9
       replace h10 := (hs 10 rfl).trans h10
       replace h20 := (hs 20 rfl).trans h20
       replace h21 := (hs 21 rfl).trans h21
       have h22 : R 22 = .int .i64 (y19 + (1 : Int)) := hF' 1 _ _ rfl rfl rfl
       replace f_u15 := f_u15.fr hw
       replace f_u2 := f_u2.fr hw
       replace hO := hO.fr hw
       replace hA := hA.fr hw.size
       replace hF := hF.trans hw
       clear hs hF' hw
       refine seqR_nil ?_
       exact Exists.intro k (And.intro (Nat.lt_succ_self k) ⟨_, _, hr, hA, hF, hAA, hO, h1, h4, h8, h9, h10, h20, h21, h22, f_u15, f_u2⟩)
     ·have hr := cnd_f c20 hr
      refine HT.exit ?_
      obtain rfl := Option.some.inj hr
      replace hO : IniOK [ob (.pointer (some ⟨b1_0, 0, none⟩)) (.box w0.heap.size 62 E_impl_RuleSet p0)] A w := hO.sub [(0, ob (.pointer (some ⟨b1_0, 0, none⟩)) (.box w0.heap.size 62 E_impl_RuleSet p0))] ⟨rfl, rfl, trivial⟩
      exact Exists.intro _ ⟨_, rfl, hA, hF, hAA, hO, h1, h8, h9, h10, f_u2⟩
    rintro R w ⟨A, s18, rfl, hA, hF, hAA, hO, h1, h8, h9, h10, f_u2⟩
    have hr := exM_go hr
    obtain ⟨e40, hr⟩ := ck_some hr
    refine HT.text (l := ⟨_, true, .raw (.int .i64 (y6 + (1 : Int)))⟩ :: ⟨_, true, .raw (.int .i64 (y6 + (1 : Int)))⟩ :: []) (tl := []) (by kernel_rfl) (by kernel_rfl) (by kernel_rfl) ?_ ?_
    ·exact
      Obls.p (fun R' w' hw hs hd => of_add ((hs 10 rfl).trans h10) rfl e40) <|
      Obls.p (fun R' w' hw hs hd => by have a0 : R' 54 = .int .i64 (y6 + (1 : Int)) := hd.g 0 rfl; exact of_move a0) <|
      Obls.nil
    intro R w hw hs hF'
    replace h1 := (hs 1 rfl).trans h1
    replace h8 := (hs 8 rfl).trans h8
    replace h9 := (hs 9 rfl).trans h9
    have h10 : R 10 = .int .i64 (y6 + (1 : Int)) := hF' 1 _ _ rfl rfl rfl
    replace f_u2 := f_u2.fr hw
    replace hO := hO.fr hw
    replace hA := hA.fr hw.size
    replace hF := hF.trans hw
    clear hs hF' hw
    refine seqR_nil ?_
    exact Exists.intro k (And.intro (Nat.lt_succ_self k) ⟨_, _, hr, hA, hF, hAA, hO, h1, h8, h9, h10, f_u2⟩)
  ·have hr := cnd_f c7 hr
   refine HT.exit ?_
   obtain rfl := Option.some.inj hr
   exact Exists.intro _ ⟨_, rfl, hA, hF, hAA, hO, h1⟩
 rintro R w ⟨A, s5, rfl, hA, hF, hAA, hO, h1⟩
 have hr := exM_go hr
 refine HT.seq ?_
 obtain ⟨x41, q42, hr⟩ := cl_some hr
 refine HT.text (l := ⟨_, true, .raw (.pointer (some ⟨b1_0, 0, none⟩))⟩ :: ⟨_, true, .rep (eSl E_impl_Rule) A p0⟩ :: ⟨_, true, .raw (.int .i64 (p0.length : Int))⟩ :: ⟨_, true, .raw (.bool x41)⟩ :: ⟨_, true, .raw (.bool x41)⟩ :: []) (tl := []) (by kernel_rfl) (by kernel_rfl) (by kernel_rfl) ?_ ?_
 ·exact
   Obls.p (fun R' w' hw hs hd => of_fieldAddr_raw ((hs 1 rfl).trans h1) ff_62_0 Try.sizeOf60 (by decide) rfl) <|
   Obls.p (fun R' w' hw hs hd => by have a0 : R' 55 = (.pointer (some ⟨b1_0, 0, none⟩)) := hd.g 0 rfl; exact (of_load_box ((hO.fr hw).ok 0 _ rfl).1 a0 fl_impl_RuleSet_0 rfl Try.isAgg60 Try.sizeOf60)) <|
   Obls.p (fun R' w' hw hs hd => by have a0 : Rep (eSl E_impl_Rule) A w' (R' 56) p0 := hd.g 0 rfl; exact of_len_sl (aT := #[]) a0 Try.underlying60) <|
   Obls.p (fun R' w' hw hs hd => by have a0 : R' 57 = .int .i64 (p0.length : Int) := hd.g 0 rfl; exact of_call Try.call73 (M_impl_within_ok (q42 rfl) (hA.fr hw.size) a0 rfl rfl)) <|
   Obls.p (fun R' w' hw hs hd => by have a0 : R' 58 = .bool x41 := hd.g 0 rfl; exact of_assign a0) <|
   Obls.nil
 intro R w hw hs hF'
 have h2 : R 2 = .bool x41 := hF' 4 _ _ rfl rfl rfl
 replace hO := hO.fr hw
 replace hO : IniOK [] A w := hO.sub [] trivial
 replace hA := hA.fr hw.size
 replace hF := hF.trans hw
 clear hs hF' hw
 refine seqR_nil ?_
 refine HT.ret ?_
 obtain rfl := Option.some.inj hr
 exact ⟨.inr rfl, [R 2], ⟨rfl, trivial⟩, h2, hF⟩
def M_impl_allTests_L0 (fu : Nat) (p0 : T_impl_RuleSet) : Nat → Int → (List T_impl_Test) → Option (List T_impl_Test)
 | 0, _, _ => none
 | k + 1, y7, y8 =>
  bif (decide (y7 < (p0.length : Int))) then (
   ck (inR y7 p0.length) <|
   ck (lenOK (y8.length + (gtD p0 y7).length)) <|
   ck (i64B (y7 + (1 : Int))) <|
   M_impl_allTests_L0 fu p0 k (y7 + (1 : Int)) (y8 ++ (gtD p0 y7))
  ) else (
   some y8
  )
def M_impl_allTests (fu : Nat) (p0 : T_impl_RuleSet) : Option (List T_impl_Test) :=
 cl true (M_impl_allTests_L0 fu p0 fu (0 : Int) ([] : List T_impl_Test)) fun s6 =>
 some s6
theorem M_impl_allTests_ok {fu : Nat} {A0 : Av} {p0 : T_impl_RuleSet} {r : List T_impl_Test} (hr : M_impl_allTests fu p0 = some r) {w : World} {v0 : Value} (hA : AvOK A0 w) (h0 : Rep E_impl_RuleSet A0 w v0 p0) :
  Calls Try.prog 92 #[v0] w fun e w' => ∃ v, e = .returned v ∧ ((Res.vec w.heap.size 85 E_impl_Test r).ok (addA A0 v) v w' ∧ Fr w w') := by
 unfold M_impl_allTests at hr
 obtain ⟨w0, hw0⟩ : ∃ w0, w0 = w := ⟨_, rfl⟩
 have hF : Fr w0 w := hw0 ▸ Fr.refl _
 have hA0 : ∀ b o, A0 b o → b < w0.heap.size := fun b o h => hw0 ▸ hA b o h
 have hA00 : AvOK A0 w0 := hA0
 rw [show w.heap.size = w0.heap.size from hw0 ▸ rfl]
 rw [show Fr w = Fr w0 from hw0 ▸ rfl]
 clear hw0
 obtain ⟨A, hAe⟩ : ∃ A, A = A0 := ⟨_, rfl⟩
 have hAA : ∀ b o, A0 b o → A b o := fun b o h => hAe ▸ h
 replace hA : AvOK A w := hAe ▸ hA
 have hO : IniOK [] A w := IniOK.nil
 refine calls_of_HT2 [.tmp 2] Try.func92 Try.ntmps92 (by decide) rfl rfl (Nat.le_of_ble_eq_true rfl) ?_
 intro R hR
 have f_v0 : Rep E_impl_RuleSet A w v0 p0 := hAe ▸ h0
 replace h0 : R 0 = v0 := hR 0 _ rfl
 clear hR hAe
 refine HT.seq ?_
 refine HT.textR [] (⟨_, true, [], some (.box w0.heap.size 62 E_impl_RuleSet p0), true, fun A => .any⟩ :: ⟨_, true, [], none, true, fun A => .any⟩ :: []) (by kernel_rfl) (by kernel_rfl) (Wf.mk' (by kernel_rfl) (UAll.cons ust_any (UAll.cons ust_any (UAll.nil))) (by kernel_rfl) (by kernel_rfl)) hO hA ?_ ?_
 ·exact
   OblsR.cons (OblR.made _ rfl rfl rfl rfl fun A' R' w' ho hd => by have a0 : R' 0 = v0 := (ho.old 0 rfl).trans h0; have ra0 := (f_v0.stp ho.stp).eq a0; exact made_box ra0 (Nat.le_trans hF.size ho.ch.size)) <|
   OblsR.p (fun A' R' w' ho hd => of_assign trivial) <|
   OblsR.nil
 intro done ρ σ A R w hdn hI
 obtain ⟨b1_0, e_b1_0⟩ := hI.boxv hdn 0 rfl rfl
 have h1 : R 1 = (.pointer (some ⟨b1_0, 0, none⟩)) := (hI.opvR hdn 0 0 rfl rfl rfl rfl rfl).symm.trans e_b1_0
 replace hAA := hI.low' hAA hA0 (hO.ge (trivial))
 replace hF : Fr w0 w := hF.tr hI.ch (hO.ge (trivial))
 replace hO : IniOK [ob (.pointer (some ⟨b1_0, 0, none⟩)) (.box w0.heap.size 62 E_impl_RuleSet p0)] A w := hI.left hdn [(0, ob (.pointer (some ⟨b1_0, 0, none⟩)) (.box w0.heap.size 62 E_impl_RuleSet p0))] ⟨rfl, rfl, e_b1_0, rfl, rfl, trivial⟩
 replace hA := hI.avok
 clear hI
 refine HT.seq ?_
 refine HT.text (l := ⟨_, true, .raw (.slice none 0 0)⟩ :: []) (tl := []) (by kernel_rfl) (by kernel_rfl) (by kernel_rfl) ?_ ?_
 ·exact
   Obls.p (fun R' w' hw hs hd => of_assign rfl) <|
   Obls.nil
 intro R w hw hs hF'
 replace h1 := (hs 1 rfl).trans h1
 obtain ⟨u2, n_u2⟩ : ∃ u, u = Value.slice none 0 0 := ⟨_, rfl⟩
 have h3 : R 3 = u2 := (hF' 0 _ _ rfl rfl rfl).trans n_u2.symm
 replace hO := hO.fr hw
 replace hA := hA.fr hw.size
 replace hF := hF.trans hw
 clear hs hF' hw
 refine seqR_nil ?_
 replace hO := hO.nilcons (u := u2) n_u2 w0.heap.size 85 E_impl_Test
 refine HT.seq ?_
 refine HT.seq ?_
 refine HT.text (l := ⟨_, true, .raw (.pointer (some ⟨b1_0, 0, none⟩))⟩ :: ⟨_, true, .rep (eSl E_impl_Rule) A p0⟩ :: ⟨_, true, .raw (.int .i64 (p0.length : Int))⟩ :: ⟨_, true, .raw (.int .i64 (0 : Int))⟩ :: []) (tl := []) (by kernel_rfl) (by kernel_rfl) (by kernel_rfl) ?_ ?_
 ·exact
   Obls.p (fun R' w' hw hs hd => of_fieldAddr_raw ((hs 1 rfl).trans h1) ff_62_0 Try.sizeOf60 (by decide) rfl) <|
   Obls.p (fun R' w' hw hs hd => by have a0 : R' 6 = (.pointer (some ⟨b1_0, 0, none⟩)) := hd.g 0 rfl; exact (of_load_box ((hO.fr hw).ok 1 _ rfl).1 a0 fl_impl_RuleSet_0 rfl Try.isAgg60 Try.sizeOf60)) <|
   Obls.p (fun R' w' hw hs hd => by have a0 : Rep (eSl E_impl_Rule) A w' (R' 7) p0 := hd.g 0 rfl; exact of_len_sl (aT := #[]) a0 Try.underlying60) <|
   Obls.p (fun R' w' hw hs hd => of_move rfl) <|
   Obls.nil
 intro R w hw hs hF'
 replace h3 := (hs 3 rfl).trans h3
 obtain ⟨u3, h7, f_u3⟩ : ∃ u, R 7 = u ∧ Rep (eSl E_impl_Rule) A w u p0 := ⟨_, rfl, hF' 1 _ _ rfl rfl rfl⟩
 have h8 : R 8 = .int .i64 (p0.length : Int) := hF' 2 _ _ rfl rfl rfl
 have h9 : R 9 = .int .i64 (0 : Int) := hF' 3 _ _ rfl rfl rfl
 replace hO := hO.fr hw
 replace hO : IniOK [ob u2 (.vec w0.heap.size 85 E_impl_Test ([] : List T_impl_Test))] A w := hO.sub [(0, ob u2 (.vec w0.heap.size 85 E_impl_Test ([] : List T_impl_Test)))] ⟨rfl, rfl, trivial⟩
 replace hA := hA.fr hw.size
 replace hF := hF.trans hw
 clear hs hF' hw
 refine seqR_nil ?_
 obtain ⟨rl4, q5, hr⟩ := cl_some hr
 replace q5 := q5 rfl
 refine HT.cut0 (fun R w => ∃ A : Av, ∃ (s6 : (List T_impl_Test)) (uo_u2 : Value), rl4 = s6 ∧ AvOK A w ∧ Fr w0 w ∧ (∀ b o, A0 b o → A b o) ∧ IniOK [ob uo_u2 (.vec w0.heap.size 85 E_impl_Test s6)] A w ∧ R 3 = uo_u2) ?_ ?_
 ·refine HT.block ?_
  refine HT.loop (fun k R w => ∃ A : Av, ∃ (y7 : Int) (y8 : List T_impl_Test) (ul_u2 : Value), M_impl_allTests_L0 fu p0 k y7 y8 = some rl4 ∧ AvOK A w ∧ Fr w0 w ∧ (∀ b o, A0 b o → A b o) ∧ IniOK [ob ul_u2 (.vec w0.heap.size 85 E_impl_Test y8)] A w ∧ R 3 = ul_u2 ∧ R 7 = u3 ∧ R 8 = .int .i64 (p0.length : Int) ∧ R 9 = .int .i64 y7 ∧ Rep (eSl E_impl_Rule) A w u3 p0) fu ⟨_, _, _, u2, q5, hA, hF, hAA, hO, h3, h7, h8, h9, f_u3⟩ ?_
  have hr0 := hr; clear hr q5
  rintro k R w ⟨A, y7, y8, ul_u2, hr, hA, hF, hAA, hO, h3, h7, h8, h9, f_u3⟩
  rcases k with _ | k
  ·cases (show none = some _ from hr)
  rw [M_impl_allTests_L0] at hr
  refine HT.seq ?_
  refine HT.text (l := ⟨_, true, .raw (.bool (decide (y7 < (p0.length : Int))))⟩ :: []) (tl := []) (by kernel_rfl) (by kernel_rfl) (by kernel_rfl) ?_ ?_
  ·exact
    Obls.p (fun R' w' hw hs hd => of_lss ((hs 9 rfl).trans h9) ((hs 8 rfl).trans h8)) <|
    Obls.nil
  intro R w hw hs hF'
  replace h3 := (hs 3 rfl).trans h3
  replace h7 := (hs 7 rfl).trans h7
  replace h8 := (hs 8 rfl).trans h8
  replace h9 := (hs 9 rfl).trans h9
  have h10 : R 10 = .bool (decide (y7 < (p0.length : Int))) := hF' 0 _ _ rfl rfl rfl
  replace f_u3 := f_u3.fr hw
  replace hO := hO.fr hw
  replace hA := hA.fr hw.size
  replace hF := hF.trans hw
  clear hs hF' hw
  refine seqR_nil ?_
  refine HT.seq ?_
  refine HT.cond (decide (y7 < (p0.length : Int))) h10 (fun c9 => ?_) (fun c9 => ?_)
  ·have hr := cnd_t c9 hr
   refine HT.skip ?_
   refine HT.seq ?_
   refine HT.block ?_
   refine HT.seq ?_
   obtain ⟨e10, hr⟩ := ck_some hr
   refine HT.textR [ob ul_u2 (.vec w0.heap.size 85 E_impl_Test y8)] (⟨_, true, [], none, true, fun A => .qtr E_impl_Rule A (gtD p0 y7)⟩ :: ⟨_, true, [], none, true, fun A => .rep E_impl_Rule A (gtD p0 y7)⟩ :: ⟨_, true, [], some (.box w0.heap.size 30 E_impl_Rule ([] : List T_impl_Test)), true, fun A => .any⟩ :: ⟨_, true, [3], some (.box w0.heap.size 30 E_impl_Rule (gtD p0 y7)), false, fun A => .any⟩ :: []) (by kernel_rfl) (by kernel_rfl) (Wf.mk' (by kernel_rfl) (UAll.cons ust_qtr (UAll.cons ust_rep (UAll.cons ust_any (UAll.cons ust_any (UAll.nil))))) (by kernel_rfl) (by kernel_rfl)) hO hA ?_ ?_
   ·exact
     OblsR.p (fun A' R' w' ho hd => by have ra0 := (f_u3.stp ho.stp).eq ((ho.old 7 rfl).trans h7); exact of_indexAddr ra0 ((ho.old 9 rfl).trans h9) Try.underlying60 Try.sizeOf30 e10) <|
     OblsR.p (fun A' R' w' ho hd => by have a0 : QRep E_impl_Rule A' w' (R' 11) (gtD p0 y7) := hd.g 0 rfl; exact (of_load a0.ptr Try.isAgg30 Try.sizeOf30)) <|
     OblsR.cons (OblR.made _ rfl rfl rfl rfl fun A' R' w' ho hd => by exact made_alloc Try.zeroValue30 (fun A w => rep1_nil) (Nat.le_trans hF.size ho.ch.size)) <|
     OblsR.cons (OblR.took 3 _ _ rfl rfl rfl rfl rfl fun A' R' w' ho hd u hok hav hin hop hds => by have a1 : Rep E_impl_Rule A' w' (R' 12) (gtD p0 y7) := hd.g 1 rfl; obtain ⟨b, hb, hB', hbx⟩ := hok; have hop' := hop _ _ rfl rfl rfl rfl; exact took_store a1 (hop'.symm.trans hb) hb ⟨b, hb, hB', hbx⟩ hav (FldS.id _) Try.sizeOf30 rfl) <|
     OblsR.nil
   intro done ρ σ A R w hdn hI
   replace h3 : R 3 = ul_u2 := (hI.reg rfl).trans h3
   replace h7 : R 7 = u3 := (hI.reg rfl).trans h7
   replace h8 : R 8 = .int .i64 (p0.length : Int) := (hI.reg rfl).trans h8
   replace h9 : R 9 = .int .i64 y7 := (hI.reg rfl).trans h9
   have z11 := hI.inivR 0 rfl
   obtain ⟨b5_11, e_b5_11⟩ := hI.boxv hdn 4 rfl rfl
   have z13 := (hI.opnR hdn 4 3 rfl rfl rfl rfl rfl).symm.trans e_b5_11
   have h5 : R 5 = (.pointer (some ⟨b5_11, 0, none⟩)) := (hI.opvR hdn 3 2 rfl rfl rfl rfl rfl).symm.trans z13
   replace f_u3 := f_u3.stp hI.stp
   replace hAA := hI.low' hAA hA0 (hO.ge (⟨rfl, trivial⟩))
   replace hF : Fr w0 w := hF.tr hI.ch (hO.ge (⟨rfl, trivial⟩))
   replace hO : IniOK [ob ul_u2 (.vec w0.heap.size 85 E_impl_Test y8), ob (.pointer (some ⟨b5_11, 0, none⟩)) (.box w0.heap.size 30 E_impl_Rule (gtD p0 y7))] A w := hI.left hdn [(0, ob ul_u2 (.vec w0.heap.size 85 E_impl_Test y8)), (4, ob (.pointer (some ⟨b5_11, 0, none⟩)) (.box w0.heap.size 30 E_impl_Rule (gtD p0 y7)))] ⟨rfl, rfl, z11, rfl, rfl, ⟨rfl, rfl, e_b5_11, rfl, rfl, trivial⟩⟩
   replace hA := hI.avok
   clear hI
   obtain ⟨e14, hr⟩ := ck_some hr
   refine HT.textR [ob ul_u2 (.vec w0.heap.size 85 E_impl_Test y8), ob (.pointer (some ⟨b5_11, 0, none⟩)) (.box w0.heap.size 30 E_impl_Rule (gtD p0 y7))] (⟨_, true, [], none, true, fun A => .raw ul_u2⟩ :: ⟨_, true, [], none, true, fun A => .raw (.pointer (some ⟨b5_11, 0, none⟩))⟩ :: ⟨_, true, [], none, true, fun A => .rep (eSl E_impl_Test) A (gtD p0 y7)⟩ :: ⟨_, true, [0], some (.vec w0.heap.size 85 E_impl_Test (y8 ++ (gtD p0 y7))), true, fun A => .any⟩ :: ⟨_, true, [5], some (.vec w0.heap.size 85 E_impl_Test (y8 ++ (gtD p0 y7))), true, fun A => .any⟩ :: []) (by kernel_rfl) (by kernel_rfl) (Wf.mk' (by kernel_rfl) (UAll.cons ust_raw (UAll.cons ust_raw (UAll.cons ust_rep (UAll.cons ust_any (UAll.cons ust_any (UAll.nil)))))) (by kernel_rfl) (by kernel_rfl)) hO hA ?_ ?_
   ·exact
     OblsR.p (fun A' R' w' ho hd => of_move ((ho.old 3 rfl).trans h3)) <|
     OblsR.p (fun A' R' w' ho hd => of_fieldAddr_raw ((ho.old 5 rfl).trans h5) ff_30_0 Try.sizeOf28 (by decide) rfl) <|
     OblsR.p (fun A' R' w' ho hd => by have a0 : R' 14 = (.pointer (some ⟨b5_11, 0, none⟩)) := hd.g 0 rfl; exact (of_load_box (ho.rd 1 _ rfl rfl) a0 fl_impl_Rule_0 rfl Try.isAgg28 Try.sizeOf28)) <|
     OblsR.cons (OblR.took 0 _ _ rfl rfl rfl rfl rfl fun A' R' w' ho hd u hok hav hin hop hds => by have a0 : R' 13 = ul_u2 := hd.g 0 rfl; have a1 : Rep (eSl E_impl_Test) A' w' (R' 15) (gtD p0 y7) := hd.g 1 rfl; exact took_append (a0.trans (hin _ rfl).symm) hok hav (Nat.le_trans hF.size ho.ch.size) a1 Try.underlying28 el_85 e14) <|
     OblsR.cons (OblR.took 5 _ _ rfl rfl rfl rfl rfl fun A' R' w' ho hd u hok hav hin hop hds => by exact took_assign (hop _ _ rfl rfl rfl rfl).symm hok hav) <|
     OblsR.nil
   intro done ρ σ A R w hdn hI
   replace h7 : R 7 = u3 := (hI.reg rfl).trans h7
   replace h8 : R 8 = .int .i64 (p0.length : Int) := (hI.reg rfl).trans h8
   replace h9 : R 9 = .int .i64 y7 := (hI.reg rfl).trans h9
   obtain ⟨u15, e_u15⟩ : ∃ u, ρ 6 = u := ⟨_, rfl⟩
   have h3 : R 3 = u15 := (hI.opvR hdn 6 4 rfl rfl rfl rfl rfl).symm.trans e_u15
   have z16 := hI.inivR 1 rfl
   replace f_u3 := f_u3.stp hI.stp
   replace hAA := hI.low' hAA hA0 (hO.ge (⟨rfl, ⟨rfl, trivial⟩⟩))
   replace hF : Fr w0 w := hF.tr hI.ch (hO.ge (⟨rfl, ⟨rfl, trivial⟩⟩))
   replace hO : IniOK [ob u15 (.vec w0.heap.size 85 E_impl_Test (y8 ++ (gtD p0 y7)))] A w := hI.left hdn [(6, ob u15 (.vec w0.heap.size 85 E_impl_Test (y8 ++ (gtD p0 y7))))] ⟨rfl, rfl, e_u15, rfl, rfl, trivial⟩
   replace hA := hI.avok
   clear hI
   obtain ⟨e17, hr⟩ := ck_some hr
   refine HT.text (l := ⟨_, true, .raw (.int .i64 (y7 + (1 : Int)))⟩ :: ⟨_, true, .raw (.int .i64 (y7 + (1 : Int)))⟩ :: []) (tl := []) (by kernel_rfl) (by kernel_rfl) (by kernel_rfl) ?_ ?_
   ·exact
     Obls.p (fun R' w' hw hs hd => of_add ((hs 9 rfl).trans h9) rfl e17) <|
     Obls.p (fun R' w' hw hs hd => by have a0 : R' 17 = .int .i64 (y7 + (1 : Int)) := hd.g 0 rfl; exact of_move a0) <|
     Obls.nil
   intro R w hw hs hF'
   replace h3 := (hs 3 rfl).trans h3
   replace h7 := (hs 7 rfl).trans h7
   replace h8 := (hs 8 rfl).trans h8
   have h9 : R 9 = .int .i64 (y7 + (1 : Int)) := hF' 1 _ _ rfl rfl rfl
   replace f_u3 := f_u3.fr hw
   replace hO := hO.fr hw
   replace hA := hA.fr hw.size
   replace hF := hF.trans hw
   clear hs hF' hw
   refine seqR_nil ?_
   exact Exists.intro k (And.intro (Nat.lt_succ_self k) ⟨_, _, _, u15, hr, hA, hF, hAA, hO, h3, h7, h8, h9, f_u3⟩)
  ·have hr := cnd_f c9 hr
   refine HT.exit ?_
   obtain rfl := Option.some.inj hr
   exact Exists.intro _ ⟨_, ul_u2, rfl, hA, hF, hAA, hO, h3⟩
 rintro R w ⟨A, s6, uo_u2, es, hA, hF, hAA, hO, h3⟩
 obtain rfl := es.symm
 refine HT.seq ?_
 refine HT.text (l := ⟨_, true, .raw uo_u2⟩ :: ⟨_, true, .raw uo_u2⟩ :: []) (tl := []) (by kernel_rfl) (by kernel_rfl) (by kernel_rfl) ?_ ?_
 ·exact
   Obls.p (fun R' w' hw hs hd => of_move ((hs 3 rfl).trans h3)) <|
   Obls.p (fun R' w' hw hs hd => by have a0 : R' 18 = uo_u2 := hd.g 0 rfl; exact of_assign a0) <|
   Obls.nil
 intro R w hw hs hF'
 have h2 : R 2 = uo_u2 := hF' 1 _ _ rfl rfl rfl
 replace hO := hO.fr hw
 replace hA := hA.fr hw.size
 replace hF := hF.trans hw
 clear hs hF' hw
 refine seqR_nil ?_
 refine HT.ret ?_
 obtain rfl := Option.some.inj hr
 exact ⟨.inr rfl, [R 2], ⟨rfl, trivial⟩, (own_post (hO.ok 0 _ rfl) hAA h2), hF⟩
theorem M_impl_allTests_okR {fu : Nat} {A0 : Av} {p0 : T_impl_RuleSet} {r : List T_impl_Test} (hr : M_impl_allTests fu p0 = some r) {w : World} {v0 : Value} (hA : AvOK A0 w) (h0 : Rep E_impl_RuleSet A0 w v0 p0) :
  Calls Try.prog 92 #[v0] w fun e w' => ∃ v, e = .returned v ∧ (Rep (eSl E_impl_Test) A0 w' v r ∧ Fr w w') := by
 refine Calls.mono (M_impl_allTests_ok hr hA h0) ?_
 rintro e w' ⟨v, he, hv, hf⟩
 exact ⟨v, he, vec_rep hv (fun b o h => .inl h) hA, hf⟩
def M_cmp_isNaN_int (fu : Nat) (p0 : Int) : Option Bool :=
 some (p0 != p0)
theorem M_cmp_isNaN_int_ok {fu : Nat} {A : Av} {p0 : Int} {r : Bool} (hr : M_cmp_isNaN_int fu p0 = some r) {w : World} {v0 : Value} (hA : AvOK A w) (h0 : v0 = .int .i64 p0) :
  Calls Try.prog 118 #[v0] w fun e w' => ∃ v, e = .returned v ∧ (v = .bool r ∧ Fr w w') := by
 unfold M_cmp_isNaN_int at hr
 obtain ⟨w0, hw0⟩ : ∃ w0, w0 = w := ⟨_, rfl⟩
 have hF : Fr w0 w := hw0 ▸ Fr.refl _
 rw [show Fr w = Fr w0 from hw0 ▸ rfl]
 clear hw0
 refine calls_of_HT2 [.tmp 2] Try.func118 Try.ntmps118 (by decide) rfl rfl (Nat.le_of_ble_eq_true rfl) ?_
 intro R hR
 replace h0 : R 0 = .int .i64 p0 := (hR 0 _ rfl).trans h0
 clear hR
 refine HT.seq ?_
 refine HT.text (l := ⟨_, true, .raw (.bool false)⟩ :: []) (tl := []) (by kernel_rfl) (by kernel_rfl) (by kernel_rfl) ?_ ?_
 ·exact
   Obls.p (fun R' w' hw hs hd => of_assign rfl) <|
   Obls.nil
 intro R w hw hs hF'
 replace h0 := (hs 0 rfl).trans h0
 replace hA := hA.fr hw.size
 replace hF := hF.trans hw
 clear hs hF' hw
 refine seqR_nil ?_
 refine HT.seq ?_
 refine HT.text (l := ⟨_, true, .raw (.int .i64 p0)⟩ :: ⟨_, true, .raw (.int .i64 p0)⟩ :: ⟨_, true, .raw (.bool (p0 != p0))⟩ :: ⟨_, true, .raw (.bool (p0 != p0))⟩ :: []) (tl := []) (by kernel_rfl) (by kernel_rfl) (by kernel_rfl) ?_ ?_
 ·exact
   Obls.p (fun R' w' hw hs hd => of_move ((hs 0 rfl).trans h0)) <|
   Obls.p (fun R' w' hw hs hd => of_move ((hs 0 rfl).trans h0)) <|
   Obls.p (fun R' w' hw hs hd => by have a0 : R' 3 = .int .i64 p0 := hd.g 0 rfl; have a1 : R' 4 = .int .i64 p0 := hd.g 1 rfl; exact of_neq a0 a1) <|
   Obls.p (fun R' w' hw hs hd => by have a0 : R' 5 = .bool (p0 != p0) := hd.g 0 rfl; exact of_assign a0) <|
   Obls.nil
 intro R w hw hs hF'
 have h2 : R 2 = .bool (p0 != p0) := hF' 3 _ _ rfl rfl rfl
 replace hA := hA.fr hw.size
 replace hF := hF.trans hw
 clear hs hF' hw
 refine seqR_nil ?_
 refine HT.ret ?_
 obtain rfl := Option.some.inj hr
 exact ⟨.inr rfl, [R 2], ⟨rfl, trivial⟩, h2, hF⟩
def M_cmp_Compare_int (fu : Nat) (p0 : Int) (p1 : Int) : Option Int :=
 cl true (M_cmp_isNaN_int fu p0) fun x1 =>
 cl true (M_cmp_isNaN_int fu p1) fun x3 =>
 bif x1 then (
  bif x3 then (
   some (0 : Int)
  ) else (
   some (-1 : Int)
  )
 ) else (
  bif x3 then (
   some (1 : Int)
  ) else (
   bif (decide (p0 < p1)) then (
    some (-1 : Int)
   ) else (
    bif (decide (p1 < p0)) then (
     some (1 : Int)
    ) else (
     some (0 : Int)
    )
   )
  )
 )
theorem M_cmp_Compare_int_ok {fu : Nat} {A : Av} {p0 : Int} {p1 : Int} {r : Int} (hr : M_cmp_Compare_int fu p0 p1 = some r) {w : World} {v0 : Value} {v1 : Value} (hA : AvOK A w) (h0 : v0 = .int .i64 p0) (h1 : v1 = .int .i64 p1) :
  Calls Try.prog 96 #[v0, v1] w fun e w' => ∃ v, e = .returned v ∧ (v = .int .i64 r ∧ Fr w w') := by
 unfold M_cmp_Compare_int at hr
 obtain ⟨w0, hw0⟩ : ∃ w0, w0 = w := ⟨_, rfl⟩
 have hF : Fr w0 w := hw0 ▸ Fr.refl _
 rw [show Fr w = Fr w0 from hw0 ▸ rfl]
 clear hw0
 refine calls_of_HT2 [.tmp 4] Try.func96 Try.ntmps96 (by decide) rfl rfl (Nat.le_of_ble_eq_true rfl) ?_
 intro R hR
 replace h0 : R 0 = .int .i64 p0 := (hR 0 _ rfl).trans h0
 replace h1 : R 1 = .int .i64 p1 := (hR 1 _ rfl).trans h1
 clear hR
 refine HT.seq ?_
 refine HT.text (l := ⟨_, true, .raw (.int .i64 (0 : Int))⟩ :: []) (tl := []) (by kernel_rfl) (by kernel_rfl) (by kernel_rfl) ?_ ?_
 ·exact
   Obls.p (fun R' w' hw hs hd => of_assign rfl) <|
   Obls.nil
 intro R w hw hs hF'
 replace h0 := (hs 0 rfl).trans h0
 replace h1 := (hs 1 rfl).trans h1
 replace hA := hA.fr hw.size
 replace hF := hF.trans hw
 clear hs hF' hw
 refine seqR_nil ?_
 refine HT.seq ?_
 obtain ⟨x1, q2, hr⟩ := cl_some hr
 refine HT.text (l := ⟨_, true, .raw (.int .i64 p0)⟩ :: ⟨_, true, .raw (.bool x1)⟩ :: ⟨_, true, .raw (.bool x1)⟩ :: []) (tl := []) (by kernel_rfl) (by kernel_rfl) (by kernel_rfl) ?_ ?_
 ·exact
   Obls.p (fun R' w' hw hs hd => of_move ((hs 0 rfl).trans h0)) <|
   Obls.p (fun R' w' hw hs hd => by have a0 : R' 7 = .int .i64 p0 := hd.g 0 rfl; exact of_call Try.call118 (M_cmp_isNaN_int_ok (q2 rfl) (hA.fr hw.size) a0)) <|
   Obls.p (fun R' w' hw hs hd => by have a0 : R' 8 = .bool x1 := hd.g 0 rfl; exact of_assign a0) <|
   Obls.nil
 intro R w hw hs hF'
 replace h0 := (hs 0 rfl).trans h0
 replace h1 := (hs 1 rfl).trans h1
 have h5 : R 5 = .bool x1 := hF' 2 _ _ rfl rfl rfl
 replace hA := hA.fr hw.size
 replace hF := hF.trans hw
 clear hs hF' hw
 refine seqR_nil ?_
 refine HT.seq ?_
 obtain ⟨x3, q4, hr⟩ := cl_some hr
 refine HT.text (l := ⟨_, true, .raw (.int .i64 p1)⟩ :: ⟨_, true, .raw (.bool x3)⟩ :: ⟨_, true, .raw (.bool x3)⟩ :: []) (tl := []) (by kernel_rfl) (by kernel_rfl) (by kernel_rfl) ?_ ?_
 ·exact
   Obls.p (fun R' w' hw hs hd => of_move ((hs 1 rfl).trans h1)) <|
   Obls.p (fun R' w' hw hs hd => by have a0 : R' 9 = .int .i64 p1 := hd.g 0 rfl; exact of_call Try.call118 (M_cmp_isNaN_int_ok (q4 rfl) (hA.fr hw.size) a0)) <|
   Obls.p (fun R' w' hw hs hd => by have a0 : R' 10 = .bool x3 := hd.g 0 rfl; exact of_assign a0) <|
   Obls.nil
 intro R w hw hs hF'
 replace h0 := (hs 0 rfl).trans h0
 replace h1 := (hs 1 rfl).trans h1
 replace h5 := (hs 5 rfl).trans h5
 have h6 : R 6 = .bool x3 := hF' 2 _ _ rfl rfl rfl
 replace hA := hA.fr hw.size
 replace hF := hF.trans hw
 clear hs hF' hw
 refine seqR_nil ?_
 refine HT.seq ?_
 refine HT.seq ?_
 refine HT.text (l := ⟨_, true, .raw (.bool x1)⟩ :: []) (tl := []) (by kernel_rfl) (by kernel_rfl) (by kernel_rfl) ?_ ?_
 ·exact
   Obls.p (fun R' w' hw hs hd => of_move ((hs 5 rfl).trans h5)) <|
   Obls.nil
 intro R w hw hs hF'
 replace h0 := (hs 0 rfl).trans h0
 replace h1 := (hs 1 rfl).trans h1
 replace h6 := (hs 6 rfl).trans h6
 have h11 : R 11 = .bool x1 := hF' 0 _ _ rfl rfl rfl
 replace hA := hA.fr hw.size
 replace hF := hF.trans hw
 clear hs hF' hw
 refine seqR_nil ?_
 refine HT.cond x1 h11 (fun c5 => ?_) (fun c5 => ?_)
 ·have hr := cnd_t c5 hr
  refine HT.seq ?_
  refine HT.seq ?_
  refine HT.text (l := ⟨_, true, .raw (.bool x3)⟩ :: []) (tl := []) (by kernel_rfl) (by kernel_rfl) (by kernel_rfl) ?_ ?_
  ·exact
    Obls.p (fun R' w' hw hs hd => of_move ((hs 6 rfl).trans h6)) <|
    Obls.nil
  intro R w hw hs hF'
  have h12 : R 12 = .bool x3 := hF' 0 _ _ rfl rfl rfl
  replace hA := hA.fr hw.size
  replace hF := hF.trans hw
  clear hs hF' hw
  refine seqR_nil ?_
  refine HT.cond x3 h12 (fun c6 => ?_) (fun c6 => ?_)
  ·have hr := cnd_t c6 hr
   refine HT.seq ?_
   refine HT.text (l := ⟨_, true, .raw (.int .i64 (0 : Int))⟩ :: []) (tl := []) (by kernel_rfl) (by kernel_rfl) (by kernel_rfl) ?_ ?_
   ·exact
     Obls.p (fun R' w' hw hs hd => of_assign rfl) <|
     Obls.nil
   intro R w hw hs hF'
   have h4 : R 4 = .int .i64 (0 : Int) := hF' 0 _ _ rfl rfl rfl
   replace hA := hA.fr hw.size
   replace hF := hF.trans hw
   clear hs hF' hw
   refine seqR_nil ?_
   refine HT.ret ?_
   obtain rfl := Option.some.inj hr
   exact ⟨.inr rfl, [R 4], ⟨rfl, trivial⟩, h4, hF⟩
  ·have hr := cnd_f c6 hr
   refine HT.skip ?_
   refine HT.seq ?_
   refine HT.text (l := ⟨_, true, .raw (.int .i64 (-1 : Int))⟩ :: []) (tl := []) (by kernel_rfl) (by kernel_rfl) (by kernel_rfl) ?_ ?_
   ·exact
     Obls.p (fun R' w' hw hs hd => of_assign rfl) <|
     Obls.nil
   intro R w hw hs hF'
   have h4 : R 4 = .int .i64 (-1 : Int) := hF' 0 _ _ rfl rfl rfl
   replace hA := hA.fr hw.size
   replace hF := hF.trans hw
   clear hs hF' hw
   refine seqR_nil ?_
   refine HT.ret ?_
   obtain rfl := Option.some.inj hr
   exact ⟨.inr rfl, [R 4], ⟨rfl, trivial⟩, h4, hF⟩
 ·have hr := cnd_f c5 hr
  refine HT.skip ?_
  refine HT.seq ?_
  refine HT.seq ?_
  refine HT.text (l := ⟨_, true, .raw (.bool x3)⟩ :: []) (tl := []) (by kernel_rfl) (by kernel_rfl) (by kernel_rfl) ?_ ?_
  ·exact
    Obls.p (fun R' w' hw hs hd => of_move ((hs 6 rfl).trans h6)) <|
    Obls.nil
  intro R w hw hs hF'
  replace h0 := (hs 0 rfl).trans h0
  replace h1 := (hs 1 rfl).trans h1
  have h13 : R 13 = .bool x3 := hF' 0 _ _ rfl rfl rfl
  replace hA := hA.fr hw.size
  replace hF := hF.trans hw
  clear hs hF' hw
  refine seqR_nil ?_
  refine HT.cond x3 h13 (fun c7 => ?_) (fun c7 => ?_)
  ·have hr := cnd_t c7 hr
   refine HT.seq ?_
   refine HT.text (l := ⟨_, true, .raw (.int .i64 (1 : Int))⟩ :: []) (tl := []) (by kernel_rfl) (by kernel_rfl) (by kernel_rfl) ?_ ?_
   ·exact
     Obls.p (fun R' w' hw hs hd => of_assign rfl) <|
     Obls.nil
   intro R w hw hs hF'
   have h4 : R 4 = .int .i64 (1 : Int) := hF' 0 _ _ rfl rfl rfl
   replace hA := hA.fr hw.size
   replace hF := hF.trans hw
   clear hs hF' hw
   refine seqR_nil ?_
   refine HT.ret ?_
   obtain rfl := Option.some.inj hr
   exact ⟨.inr rfl, [R 4], ⟨rfl, trivial⟩, h4, hF⟩
  ·have hr := cnd_f c7 hr
   refine HT.skip ?_
   refine HT.seq ?_
   refine HT.seq ?_
   refine HT.text (l := ⟨_, true, .raw (.int .i64 p0)⟩ :: ⟨_, true, .raw (.int .i64 p1)⟩ :: ⟨_, true, .raw (.bool (decide (p0 < p1)))⟩ :: []) (tl := []) (by kernel_rfl) (by kernel_rfl) (by kernel_rfl) ?_ ?_
   ·exact
     Obls.p (fun R' w' hw hs hd => of_move ((hs 0 rfl).trans h0)) <|
     Obls.p (fun R' w' hw hs hd => of_move ((hs 1 rfl).trans h1)) <|
     Obls.p (fun R' w' hw hs hd => by have a0 : R' 14 = .int .i64 p0 := hd.g 0 rfl; have a1 : R' 15 = .int .i64 p1 := hd.g 1 rfl; exact of_lss a0 a1) <|
     Obls.nil
   intro R w hw hs hF'
   replace h0 := (hs 0 rfl).trans h0
   replace h1 := (hs 1 rfl).trans h1
   have h16 : R 16 = .bool (decide (p0 < p1)) := hF' 2 _ _ rfl rfl rfl
   replace hA := hA.fr hw.size
   replace hF := hF.trans hw
   clear hs hF' hw
   refine seqR_nil ?_
   refine HT.cond (decide (p0 < p1)) h16 (fun c8 => ?_) (fun c8 => ?_)
   ·have hr := cnd_t c8 hr
    refine HT.seq ?_
    refine HT.text (l := ⟨_, true, .raw (.int .i64 (-1 : Int))⟩ :: []) (tl := []) (by kernel_rfl) (by kernel_rfl) (by kernel_rfl) ?_ ?_
    ·exact
      Obls.p (fun R' w' hw hs hd => of_assign rfl) <|
      Obls.nil
    intro R w hw hs hF'
    have h4 : R 4 = .int .i64 (-1 : Int) := hF' 0 _ _ rfl rfl rfl
    replace hA := hA.fr hw.size
    replace hF := hF.trans hw
    clear hs hF' hw
    refine seqR_nil ?_
    refine HT.ret ?_
    obtain rfl := Option.some.inj hr
    exact ⟨.inr rfl, [R 4], ⟨rfl, trivial⟩, h4, hF⟩
   ·have hr := cnd_f c8 hr
    refine HT.skip ?_
    refine HT.seq ?_
    refine HT.seq ?_
    refine HT.text (l := ⟨_, true, .raw (.int .i64 p0)⟩ :: ⟨_, true, .raw (.int .i64 p1)⟩ :: ⟨_, true, .raw (.bool (decide (p1 < p0)))⟩ :: []) (tl := []) (by kernel_rfl) (by kernel_rfl) (by kernel_rfl) ?_ ?_
    ·exact
      Obls.p (fun R' w' hw hs hd => of_move ((hs 0 rfl).trans h0)) <|
      Obls.p (fun R' w' hw hs hd => of_move ((hs 1 rfl).trans h1)) <|
      Obls.p (fun R' w' hw hs hd => by have a0 : R' 17 = .int .i64 p0 := hd.g 0 rfl; have a1 : R' 18 = .int .i64 p1 := hd.g 1 rfl; exact of_gtr a0 a1) <|
      Obls.nil
    intro R w hw hs hF'
    have h19 : R 19 = .bool (decide (p1 < p0)) := hF' 2 _ _ rfl rfl rfl
    replace hA := hA.fr hw.size
    replace hF := hF.trans hw
    clear hs hF' hw
    refine seqR_nil ?_
    refine HT.cond (decide (p1 < p0)) h19 (fun c9 => ?_) (fun c9 => ?_)
    ·have hr := cnd_t c9 hr
     refine HT.seq ?_
     refine HT.text (l := ⟨_, true, .raw (.int .i64 (1 : Int))⟩ :: []) (tl := []) (by kernel_rfl) (by kernel_rfl) (by kernel_rfl) ?_ ?_
     ·exact
       Obls.p (fun R' w' hw hs hd => of_assign rfl) <|
       Obls.nil
     intro R w hw hs hF'
     have h4 : R 4 = .int .i64 (1 : Int) := hF' 0 _ _ rfl rfl rfl
     replace hA := hA.fr hw.size
     replace hF := hF.trans hw
     clear hs hF' hw
     refine seqR_nil ?_
     refine HT.ret ?_
     obtain rfl := Option.some.inj hr
     exact ⟨.inr rfl, [R 4], ⟨rfl, trivial⟩, h4, hF⟩
    ·have hr := cnd_f c9 hr
     refine HT.skip ?_
     refine HT.seq ?_
     refine HT.text (l := ⟨_, true, .raw (.int .i64 (0 : Int))⟩ :: []) (tl := []) (by kernel_rfl) (by kernel_rfl) (by kernel_rfl) ?_ ?_
     ·exact
       Obls.p (fun R' w' hw hs hd => of_assign rfl) <|
       Obls.nil
     intro R w hw hs hF'
     have h4 : R 4 = .int .i64 (0 : Int) := hF' 0 _ _ rfl rfl rfl
     replace hA := hA.fr hw.size
     replace hF := hF.trans hw
     clear hs hF' hw
     refine seqR_nil ?_
     refine HT.ret ?_
     obtain rfl := Option.some.inj hr
     exact ⟨.inr rfl, [R 4], ⟨rfl, trivial⟩, h4, hF⟩
def M_cmp_Or_int_L0 (fu : Nat) (p0 : List Int) : Nat → Int → Option (Ex Int Unit)
 | 0, _ => none
 | k + 1, y4 =>
  bif (decide (y4 < (p0.length : Int))) then (
   ck (inR y4 p0.length) <|
   bif ((gtD p0 y4) != (0 : Int)) then (
    some (Ex.ret (gtD p0 y4))
   ) else (
    ck (i64B (y4 + (1 : Int))) <|
    M_cmp_Or_int_L0 fu p0 k (y4 + (1 : Int))
   )
  ) else (
   some (Ex.go ())
  )
def M_cmp_Or_int (fu : Nat) (p0 : List Int) : Option Int :=
 cl true (M_cmp_Or_int_L0 fu p0 fu (0 : Int)) fun rl1 =>
 exM rl1 (fun r => some r) fun s3 =>
 some (0 : Int)
theorem M_cmp_Or_int_ok {fu : Nat} {A : Av} {p0 : List Int} {r : Int} (hr : M_cmp_Or_int fu p0 = some r) {w : World} {v0 : Value} (hA : AvOK A w) (h0 : Rep (eSl (eInt .i64)) A w v0 p0) :
  Calls Try.prog 95 #[v0] w fun e w' => ∃ v, e = .returned v ∧ (v = .int .i64 r ∧ Fr w w') := by
 unfold M_cmp_Or_int at hr
 obtain ⟨w0, hw0⟩ : ∃ w0, w0 = w := ⟨_, rfl⟩
 have hF : Fr w0 w := hw0 ▸ Fr.refl _
 rw [show Fr w = Fr w0 from hw0 ▸ rfl]
 clear hw0
 refine calls_of_HT2 [.tmp 2] Try.func95 Try.ntmps95 (by decide) rfl rfl (Nat.le_of_ble_eq_true rfl) ?_
 intro R hR
 have f_v0 := h0
 replace h0 : R 0 = v0 := hR 0 _ rfl
 clear hR
 refine HT.seq ?_
 refine HT.text (l := ⟨_, true, .raw (.int .i64 (0 : Int))⟩ :: []) (tl := []) (by kernel_rfl) (by kernel_rfl) (by kernel_rfl) ?_ ?_
 ·exact
   Obls.p (fun R' w' hw hs hd => of_assign rfl) <|
   Obls.nil
 intro R w hw hs hF'
 replace h0 := (hs 0 rfl).trans h0
 replace f_v0 := f_v0.fr hw
 replace hA := hA.fr hw.size
 replace hF := hF.trans hw
 clear hs hF' hw
 refine seqR_nil ?_
 refine HT.seq ?_
 refine HT.text (l := ⟨_, true, .raw (.int .i64 (0 : Int))⟩ :: []) (tl := []) (by kernel_rfl) (by kernel_rfl) (by kernel_rfl) ?_ ?_
 ·exact
   Obls.p (fun R' w' hw hs hd => of_assign rfl) <|
   Obls.nil
 intro R w hw hs hF'
 replace h0 := (hs 0 rfl).trans h0
 have h3 : R 3 = .int .i64 (0 : Int) := hF' 0 _ _ rfl rfl rfl
 replace f_v0 := f_v0.fr hw
 replace hA := hA.fr hw.size
 replace hF := hF.trans hw
 clear hs hF' hw
 refine seqR_nil ?_
 refine HT.seq ?_
 refine HT.seq ?_
 refine HT.text (l := ⟨_, true, .raw v0⟩ :: ⟨_, true, .raw (.int .i64 (p0.length : Int))⟩ :: ⟨_, true, .raw (.int .i64 (0 : Int))⟩ :: []) (tl := []) (by kernel_rfl) (by kernel_rfl) (by kernel_rfl) ?_ ?_
 ·exact
   Obls.p (fun R' w' hw hs hd => of_move ((hs 0 rfl).trans h0)) <|
   Obls.p (fun R' w' hw hs hd => by have a0 : R' 6 = v0 := hd.g 0 rfl; have ra0 := (f_v0.fr hw).eq a0; exact of_len_sl (aT := #[]) ra0 Try.underlying25) <|
   Obls.p (fun R' w' hw hs hd => of_move rfl) <|
   Obls.nil
 intro R w hw hs hF'
 replace h3 := (hs 3 rfl).trans h3
 have h6 : R 6 = v0 := hF' 0 _ _ rfl rfl rfl
 have h7 : R 7 = .int .i64 (p0.length : Int) := hF' 1 _ _ rfl rfl rfl
 have h8 : R 8 = .int .i64 (0 : Int) := hF' 2 _ _ rfl rfl rfl
 replace f_v0 := f_v0.fr hw
 replace hA := hA.fr hw.size
 replace hF := hF.trans hw
 clear hs hF' hw
 refine seqR_nil ?_
 obtain ⟨rl1, q2, hr⟩ := cl_some hr
 replace q2 := q2 rfl
 refine HT.cut0 (fun R w => ∃ (s3 : Unit), rl1 = Ex.go s3 ∧ AvOK A w ∧ Fr w0 w ∧ R 3 = .int .i64 (0 : Int)) ?_ ?_
 ·refine HT.block ?_
  refine HT.loop (fun k R w => ∃ (y4 : Int), M_cmp_Or_int_L0 fu p0 k y4 = some rl1 ∧ AvOK A w ∧ Fr w0 w ∧ R 3 = .int .i64 (0 : Int) ∧ R 6 = v0 ∧ R 7 = .int .i64 (p0.length : Int) ∧ R 8 = .int .i64 y4 ∧ Rep (eSl (eInt .i64)) A w v0 p0) fu ⟨_, q2, hA, hF, h3, h6, h7, h8, f_v0⟩ ?_
  have hr0 := hr; clear hr q2
  rintro k R w ⟨y4, hr, hA, hF, h3, h6, h7, h8, f_v0⟩
  rcases k with _ | k
  ·cases (show none = some _ from hr)
  rw [M_cmp_Or_int_L0] at hr
  refine HT.seq ?_
  refine HT.text (l := ⟨_, true, .raw (.bool (decide (y4 < (p0.length : Int))))⟩ :: []) (tl := []) (by kernel_rfl) (by kernel_rfl) (by kernel_rfl) ?_ ?_
  ·exact
    Obls.p (fun R' w' hw hs hd => of_lss ((hs 8 rfl).trans h8) ((hs 7 rfl).trans h7)) <|
    Obls.nil
  intro R w hw hs hF'
  replace h3 := (hs 3 rfl).trans h3
  replace h6 := (hs 6 rfl).trans h6
  replace h7 := (hs 7 rfl).trans h7
  replace h8 := (hs 8 rfl).trans h8
  have h9 : R 9 = .bool (decide (y4 < (p0.length : Int))) := hF' 0 _ _ rfl rfl rfl
  replace f_v0 := f_v0.fr hw
  replace hA := hA.fr hw.size
  replace hF := hF.trans hw
  clear hs hF' hw
  refine seqR_nil ?_
  refine HT.seq ?_
  refine HT.cond (decide (y4 < (p0.length : Int))) h9 (fun c5 => ?_) (fun c5 => ?_)
  ·have hr := cnd_t c5 hr
   refine HT.skip ?_
   refine HT.seq ?_
   refine HT.block ?_
   refine HT.seq ?_
   obtain ⟨e6, hr⟩ := ck_some hr
   refine HT.text (l := ⟨_, true, .qtr (eInt .i64) A (gtD p0 y4)⟩ :: ⟨_, true, .raw (.int .i64 (gtD p0 y4))⟩ :: ⟨_, true, .raw (.int .i64 (gtD p0 y4))⟩ :: []) (tl := []) (by kernel_rfl) (by kernel_rfl) (by kernel_rfl) ?_ ?_
   ·exact
     Obls.p (fun R' w' hw hs hd => by have ra0 := (f_v0.fr hw).eq ((hs 6 rfl).trans h6); exact of_indexAddr ra0 ((hs 8 rfl).trans h8) Try.underlying25 Try.sizeOf3 e6) <|
     Obls.p (fun R' w' hw hs hd => by have a0 : QRep (eInt .i64) A w' (R' 10) (gtD p0 y4) := hd.g 0 rfl; exact OpF.int (of_load a0.ptr Try.isAgg3 Try.sizeOf3)) <|
     Obls.p (fun R' w' hw hs hd => by have a0 : R' 11 = .int .i64 (gtD p0 y4) := hd.g 0 rfl; exact of_assign a0) <|
     Obls.nil
   intro R w hw hs hF'
   replace h3 := (hs 3 rfl).trans h3
   replace h6 := (hs 6 rfl).trans h6
   replace h7 := (hs 7 rfl).trans h7
   replace h8 := (hs 8 rfl).trans h8
   have h5 : R 5 = .int .i64 (gtD p0 y4) := hF' 2 _ _ rfl rfl rfl
   replace f_v0 := f_v0.fr hw
   replace hA := hA.fr hw.size
   replace hF := hF.trans hw
   clear hs hF' hw
   refine seqR_nil ?_
   refine HT.seq ?_
   refine HT.text (l := ⟨_, true, .raw (.int .i64 (gtD p0 y4))⟩ :: ⟨_, true, .raw (.int .i64 (0 : Int))⟩ :: ⟨_, true, .raw (.bool ((gtD p0 y4) != (0 : Int)))⟩ :: []) (tl := []) (by kernel_rfl) (by kernel_rfl) (by kernel_rfl) ?_ ?_
   ·exact
     Obls.p (fun R' w' hw hs hd => of_move ((hs 5 rfl).trans h5)) <|
     Obls.p (fun R' w' hw hs hd => of_move ((hs 3 rfl).trans h3)) <|
     Obls.p (fun R' w' hw hs hd => by have a0 : R' 12 = .int .i64 (gtD p0 y4) := hd.g 0 rfl; have a1 : R' 13 = .int .i64 (0 : Int) := hd.g 1 rfl; exact of_neq a0 a1) <|
     Obls.nil
   intro R w hw hs hF'
   replace h3 := (hs 3 rfl).trans h3
   replace h5 := (hs 5 rfl).trans h5
   replace h6 := (hs 6 rfl).trans h6
   replace h7 := (hs 7 rfl).trans h7
   replace h8 := (hs 8 rfl).trans h8
   have h14 : R 14 = .bool ((gtD p0 y4) != (0 : Int)) := hF' 2 _ _ rfl rfl rfl
   replace f_v0 := f_v0.fr hw
   replace hA := hA.fr hw.size
   replace hF := hF.trans hw
   clear hs hF' hw
   refine seqR_nil ?_
   refine HT.cond ((gtD p0 y4) != (0 : Int)) h14 (fun c7 => ?_) (fun c7 => ?_)
   ·have hr := cnd_t c7 hr
    refine HT.seq ?_
    refine HT.text (l := ⟨_, true, .raw (.int .i64 (gtD p0 y4))⟩ :: ⟨_, true, .raw (.int .i64 (gtD p0 y4))⟩ :: []) (tl := []) (by kernel_rfl) (by kernel_rfl) (by kernel_rfl) ?_ ?_
    ·exact
      Obls.p (fun R' w' hw hs hd => of_move ((hs 5 rfl).trans h5)) <|
      Obls.p (fun R' w' hw hs hd => by have a0 : R' 15 = .int .i64 (gtD p0 y4) := hd.g 0 rfl; exact of_assign a0) <|
      Obls.nil
    intro R w hw hs hF'
    have h2 : R 2 = .int .i64 (gtD p0 y4) := hF' 1 _ _ rfl rfl rfl
    replace hA := hA.fr hw.size
    replace hF := hF.trans hw
    clear hs hF' hw
    refine seqR_nil ?_
    refine HT.ret ?_
    obtain rfl := Option.some.inj hr
    have hr := hr0
    replace hr : some _ = some _ := hr
    obtain rfl := Option.some.inj hr
    exact ⟨.inr rfl, [R 2], ⟨rfl, trivial⟩, h2, hF⟩
   ·have hr := cnd_f c7 hr
    refine HT.skip ?_
    obtain ⟨e8, hr⟩ := ck_some hr
    refine HT.text (l := ⟨_, true, .raw (.int .i64 (y4 + (1 : Int)))⟩ :: ⟨_, true, .raw (.int .i64 (y4 + (1 : Int)))⟩ :: []) (tl := []) (by kernel_rfl) (by kernel_rfl) (by kernel_rfl) ?_ ?_
    ·exact
      Obls.p (fun R' w' hw hs hd => of_add ((hs 8 rfl).trans h8) rfl e8) <|
      Obls.p (fun R' w' hw hs hd => by have a0 : R' 16 = .int .i64 (y4 + (1 : Int)) := hd.g 0 rfl; exact of_move a0) <|
      Obls.nil
    intro R w hw hs hF'
    replace h3 := (hs 3 rfl).trans h3
    replace h6 := (hs 6 rfl).trans h6
    replace h7 := (hs 7 rfl).trans h7
    have h8 : R 8 = .int .i64 (y4 + (1 : Int)) := hF' 1 _ _ rfl rfl rfl
    replace f_v0 := f_v0.fr hw
    replace hA := hA.fr hw.size
    replace hF := hF.trans hw
    clear hs hF' hw
    refine seqR_nil ?_
    exact Exists.intro k (And.intro (Nat.lt_succ_self k) ⟨_, hr, hA, hF, h3, h6, h7, h8, f_v0⟩)
  ·have hr := cnd_f c5 hr
   refine HT.exit ?_
   obtain rfl := Option.some.inj hr
   exact Exists.intro _ ⟨rfl, hA, hF, h3⟩
 rintro R w ⟨s3, rfl, hA, hF, h3⟩
 have hr := exM_go hr
 refine HT.seq ?_
 refine HT.text (l := ⟨_, true, .raw (.int .i64 (0 : Int))⟩ :: ⟨_, true, .raw (.int .i64 (0 : Int))⟩ :: []) (tl := []) (by kernel_rfl) (by kernel_rfl) (by kernel_rfl) ?_ ?_
 ·exact
   Obls.p (fun R' w' hw hs hd => of_move ((hs 3 rfl).trans h3)) <|
   Obls.p (fun R' w' hw hs hd => by have a0 : R' 17 = .int .i64 (0 : Int) := hd.g 0 rfl; exact of_assign a0) <|
   Obls.nil
 intro R w hw hs hF'
 have h2 : R 2 = .int .i64 (0 : Int) := hF' 1 _ _ rfl rfl rfl
 replace hA := hA.fr hw.size
 replace hF := hF.trans hw
 clear hs hF' hw
 refine seqR_nil ?_
 refine HT.ret ?_
 obtain rfl := Option.some.inj hr
 exact ⟨.inr rfl, [R 2], ⟨rfl, trivial⟩, h2, hF⟩
def M_impl_DiagramVariables_1 (fu : Nat) (p0 : T_impl_Test) (p1 : T_impl_Test) : Option Int :=
 cl true (M_cmp_Compare_int fu p0.1 p1.1) fun x3 =>
 cl true (M_cmp_Compare_int fu p0.2.1 p1.2.1) fun x5 =>
 cl true (M_cmp_Or_int fu ([x3, x5] : List Int)) fun x7 =>
 some x7
theorem M_impl_DiagramVariables_1_ok {fu : Nat} {A0 : Av} {p0 : T_impl_Test} {p1 : T_impl_Test} {r : Int} (hr : M_impl_DiagramVariables_1 fu p0 p1 = some r) {w : World} {v0 : Value} {v1 : Value} (hA : AvOK A0 w) (h0 : Rep E_impl_Test A0 w v0 p0) (h1 : Rep E_impl_Test A0 w v1 p1) :
  Calls Try.prog 94 #[v0, v1] w fun e w' => ∃ v, e = .returned v ∧ (v = .int .i64 r ∧ Fr w w') := by
 unfold M_impl_DiagramVariables_1 at hr
 obtain ⟨w0, hw0⟩ : ∃ w0, w0 = w := ⟨_, rfl⟩
 have hF : Fr w0 w := hw0 ▸ Fr.refl _
 have hA0 : ∀ b o, A0 b o → b < w0.heap.size := fun b o h => hw0 ▸ hA b o h
 have hA00 : AvOK A0 w0 := hA0
 rw [show Fr w = Fr w0 from hw0 ▸ rfl]
 clear hw0
 obtain ⟨A, hAe⟩ : ∃ A, A = A0 := ⟨_, rfl⟩
 have hAA : ∀ b o, A0 b o → A b o := fun b o h => hAe ▸ h
 replace hA : AvOK A w := hAe ▸ hA
 have hO : IniOK [] A w := IniOK.nil
 refine calls_of_HT2 [.tmp 4] Try.func94 Try.ntmps94 (by decide) rfl rfl (Nat.le_of_ble_eq_true rfl) ?_
 intro R hR
 have f_v0 : Rep E_impl_Test A w v0 p0 := hAe ▸ h0
 replace h0 : R 0 = v0 := hR 0 _ rfl
 have f_v1 : Rep E_impl_Test A w v1 p1 := hAe ▸ h1
 replace h1 : R 1 = v1 := hR 1 _ rfl
 clear hR hAe
 refine HT.seq ?_
 refine HT.textR [] (⟨_, true, [], some (.box w0.heap.size 85 E_impl_Test p0), true, fun A => .any⟩ :: ⟨_, true, [], some (.box w0.heap.size 85 E_impl_Test p1), true, fun A => .any⟩ :: ⟨_, true, [], none, true, fun A => .raw (.int .i64 (0 : Int))⟩ :: []) (by kernel_rfl) (by kernel_rfl) (Wf.mk' (by kernel_rfl) (UAll.cons ust_any (UAll.cons ust_any (UAll.cons ust_raw (UAll.nil)))) (by kernel_rfl) (by kernel_rfl)) hO hA ?_ ?_
 ·exact
   OblsR.cons (OblR.made _ rfl rfl rfl rfl fun A' R' w' ho hd => by have a0 : R' 0 = v0 := (ho.old 0 rfl).trans h0; have ra0 := (f_v0.stp ho.stp).eq a0; exact made_box ra0 (Nat.le_trans hF.size ho.ch.size)) <|
   OblsR.cons (OblR.made _ rfl rfl rfl rfl fun A' R' w' ho hd => by have a0 : R' 1 = v1 := (ho.old 1 rfl).trans h1; have ra0 := (f_v1.stp ho.stp).eq a0; exact made_box ra0 (Nat.le_trans hF.size ho.ch.size)) <|
   OblsR.p (fun A' R' w' ho hd => of_assign rfl) <|
   OblsR.nil
 intro done ρ σ A R w hdn hI
 obtain ⟨b2_0, e_b2_0⟩ := hI.boxv hdn 0 rfl rfl
 have h2 : R 2 = (.pointer (some ⟨b2_0, 0, none⟩)) := (hI.opvR hdn 0 0 rfl rfl rfl rfl rfl).symm.trans e_b2_0
 obtain ⟨b3_1, e_b3_1⟩ := hI.boxv hdn 1 rfl rfl
 have h3 : R 3 = (.pointer (some ⟨b3_1, 0, none⟩)) := (hI.opvR hdn 1 1 rfl rfl rfl rfl rfl).symm.trans e_b3_1
 replace hAA := hI.low' hAA hA0 (hO.ge (trivial))
 replace hF : Fr w0 w := hF.tr hI.ch (hO.ge (trivial))
 replace hO : IniOK [ob (.pointer (some ⟨b2_0, 0, none⟩)) (.box w0.heap.size 85 E_impl_Test p0), ob (.pointer (some ⟨b3_1, 0, none⟩)) (.box w0.heap.size 85 E_impl_Test p1)] A w := hI.left hdn [(0, ob (.pointer (some ⟨b2_0, 0, none⟩)) (.box w0.heap.size 85 E_impl_Test p0)), (1, ob (.pointer (some ⟨b3_1, 0, none⟩)) (.box w0.heap.size 85 E_impl_Test p1))] ⟨rfl, rfl, e_b2_0, rfl, rfl, ⟨rfl, rfl, e_b3_1, rfl, rfl, trivial⟩⟩
 replace hA := hI.avok
 clear hI
 refine HT.seq ?_
 obtain ⟨x3, q4, hr⟩ := cl_some hr
 obtain ⟨x5, q6, hr⟩ := cl_some hr
 obtain ⟨x7, q8, hr⟩ := cl_some hr
 refine HT.draw (by kernel_rfl) (l := ⟨_, true, .raw (.pointer (some ⟨b2_0, 0, none⟩))⟩ :: ⟨_, true, .raw (.int .i64 p0.1)⟩ :: ⟨_, true, .raw (.pointer (some ⟨b3_1, 0, none⟩))⟩ :: ⟨_, true, .raw (.int .i64 p1.1)⟩ :: ⟨_, true, .raw (.int .i64 x3)⟩ :: ⟨_, true, .raw (.pointer (some ⟨b2_0, 1, none⟩))⟩ :: ⟨_, true, .raw (.int .i64 p0.2.1)⟩ :: ⟨_, true, .raw (.pointer (some ⟨b3_1, 1, none⟩))⟩ :: ⟨_, true, .raw (.int .i64 p1.2.1)⟩ :: ⟨_, true, .raw (.int .i64 x5)⟩ :: ⟨_, true, .rep (eSl (eInt .i64)) A ([x3, x5] : List Int)⟩ :: ⟨_, true, .raw (.int .i64 x7)⟩ :: ⟨_, true, .raw (.int .i64 x7)⟩ :: []) (tl := []) (by kernel_rfl) (by kernel_rfl) (by kernel_rfl) (by kernel_rfl) ?_ ?_
 ·exact
   Obls.p (fun R' w' hw hs hd => of_fieldAddr_raw ((hs 2 rfl).trans h2) ff_85_0 Try.sizeOf3 (by decide) rfl) <|
   Obls.p (fun R' w' hw hs hd => by have a0 : R' 5 = (.pointer (some ⟨b2_0, 0, none⟩)) := hd.g 0 rfl; exact OpF.int (of_load_box ((hO.fr hw).ok 0 _ rfl).1 a0 fl_impl_Test_0 rfl Try.isAgg3 Try.sizeOf3)) <|
   Obls.p (fun R' w' hw hs hd => of_fieldAddr_raw ((hs 3 rfl).trans h3) ff_85_0 Try.sizeOf3 (by decide) rfl) <|
   Obls.p (fun R' w' hw hs hd => by have a0 : R' 7 = (.pointer (some ⟨b3_1, 0, none⟩)) := hd.g 0 rfl; exact OpF.int (of_load_box ((hO.fr hw).ok 1 _ rfl).1 a0 fl_impl_Test_0 rfl Try.isAgg3 Try.sizeOf3)) <|
   Obls.p (fun R' w' hw hs hd => by have a0 : R' 6 = .int .i64 p0.1 := hd.g 0 rfl; have a1 : R' 8 = .int .i64 p1.1 := hd.g 1 rfl; exact of_call Try.call96 (M_cmp_Compare_int_ok (q4 rfl) (hA.fr hw.size) a0 a1)) <|
   Obls.p (fun R' w' hw hs hd => of_fieldAddr_raw ((hs 2 rfl).trans h2) ff_85_1 Try.sizeOf3 (by decide) rfl) <|
   Obls.p (fun R' w' hw hs hd => by have a0 : R' 10 = (.pointer (some ⟨b2_0, 1, none⟩)) := hd.g 0 rfl; exact OpF.int (of_load_box ((hO.fr hw).ok 0 _ rfl).1 a0 fl_impl_Test_1 rfl Try.isAgg3 Try.sizeOf3)) <|
   Obls.p (fun R' w' hw hs hd => of_fieldAddr_raw ((hs 3 rfl).trans h3) ff_85_1 Try.sizeOf3 (by decide) rfl) <|
   Obls.p (fun R' w' hw hs hd => by have a0 : R' 12 = (.pointer (some ⟨b3_1, 1, none⟩)) := hd.g 0 rfl; exact OpF.int (of_load_box ((hO.fr hw).ok 1 _ rfl).1 a0 fl_impl_Test_1 rfl Try.isAgg3 Try.sizeOf3)) <|
   Obls.p (fun R' w' hw hs hd => by have a0 : R' 11 = .int .i64 p0.2.1 := hd.g 0 rfl; have a1 : R' 13 = .int .i64 p1.2.1 := hd.g 1 rfl; exact of_call Try.call96 (M_cmp_Compare_int_ok (q6 rfl) (hA.fr hw.size) a0 a1)) <|
   Obls.p (fun R' w' hw hs hd => by have a0 : R' 9 = .int .i64 x3 := hd.g 0 rfl; have a1 : R' 14 = .int .i64 x5 := hd.g 1 rfl; exact of_build [_, _] (E := eInt .i64) ⟨(rep_int.eq a0), ⟨(rep_int.eq a1), trivial⟩⟩ Try.underlying25 Try.sizeOf3 Try.zeroValue3 rfl rfl rfl (hA.fr hw.size)) <|
   Obls.p (fun R' w' hw hs hd => by have a0 : Rep (eSl (eInt .i64)) A w' (R' 15) ([x3, x5] : List Int) := hd.g 0 rfl; exact of_call Try.call95 (M_cmp_Or_int_ok (q8 rfl) (hA.fr hw.size) a0)) <|
   Obls.p (fun R' w' hw hs hd => by have a0 : R' 16 = .int .i64 x7 := hd.g 0 rfl; exact of_assign a0) <|
   Obls.nil
 intro R w hw hs hF'
 have h4 : R 4 = .int .i64 x7 := hF' 12 _ _ rfl rfl rfl
 replace hO := hO.fr hw
 replace hO : IniOK [] A w := hO.sub [] trivial
 replace hA := hA.fr hw.size
 replace hF := hF.trans hw
 clear hs hF' hw
 refine seqR_nil ?_
 refine HT.ret ?_
 obtain rfl := Option.some.inj hr
 exact ⟨.inr rfl, [R 4], ⟨rfl, trivial⟩, h4, hF⟩
def M_slices_Compact_impl_Test_impl_Test_L1 (fu : Nat) (y5 : Int) (x13 : Nat) : Nat → Int → Int → (List T_impl_Test) → Option (Int × (List T_impl_Test))
 | 0, _, _, _ => none
 | k + 1, y18, y19, y20 =>
  bif (decide (y19 < (x13 : Int))) then (
   ck (inR y19 x13) <|
   ck (decide (0 ≤ y5)) <|
   ck (inR (y5 + y19) y20.length) <|
   ck (i64B (y19 - (1 : Int))) <|
   ck (inR (y19 - (1 : Int)) x13) <|
   ck (decide (0 ≤ y5)) <|
   ck (inR (y5 + (y19 - (1 : Int))) y20.length) <|
   bif (!((gtD y20 (y5 + y19)) == (gtD y20 (y5 + (y19 - (1 : Int)))))) then (
    ck (inR y19 x13) <|
    ck (decide (0 ≤ y5)) <|
    ck (inR (y5 + y19) y20.length) <|
    ck (inR y18 y20.length) <|
    ck (i64B (y18 + (1 : Int))) <|
    ck (i64B (y19 + (1 : Int))) <|
    M_slices_Compact_impl_Test_impl_Test_L1 fu y5 x13 k (y18 + (1 : Int)) (y19 + (1 : Int)) (y20.set y18.toNat (gtD y20 (y5 + y19)))
   ) else (
    ck (i64B (y19 + (1 : Int))) <|
    M_slices_Compact_impl_Test_impl_Test_L1 fu y5 x13 k y18 (y19 + (1 : Int)) y20
   )
  ) else (
   some (y18, y20)
  )
def M_slices_Compact_impl_Test_impl_Test_L0 (fu : Nat) : Nat → Int → (List T_impl_Test) → Option (Ex (List T_impl_Test) (List T_impl_Test))
 | 0, _, _ => none
 | k + 1, y5, y6 =>
  bif (decide (y5 < (y6.length : Int))) then (
   ck (inR y5 y6.length) <|
   ck (i64B (y5 - (1 : Int))) <|
   ck (inR (y5 - (1 : Int)) y6.length) <|
   bif ((gtD y6 y5) == (gtD y6 (y5 - (1 : Int)))) then (
    ck (subR y5 (y6.length : Int) y6.length) <|
    bd ((y6.length : Int).toNat - y5.toNat) fun x13 =>
    cl true (M_slices_Compact_impl_Test_impl_Test_L1 fu y5 x13 fu y5 (1 : Int) y6) fun s17 =>
    ck (subR s17.1 (s17.2.length : Int) s17.2.length) <|
    bd ((s17.2.length : Int).toNat - s17.1.toNat) fun x40 =>
    ck (subR s17.1 s17.2.length s17.2.length) <|
    ck (x40 == s17.2.length - s17.1.toNat) <|
    ck (subR 0 s17.1 (s17.2.take s17.1.toNat ++ List.replicate (s17.2.length - s17.1.toNat) ((0 : Int), ((0 : Int), false))).length) <|
    some (Ex.ret (subL (s17.2.take s17.1.toNat ++ List.replicate (s17.2.length - s17.1.toNat) ((0 : Int), ((0 : Int), false))) 0 s17.1))
   ) else (
    ck (i64B (y5 + (1 : Int))) <|
    M_slices_Compact_impl_Test_impl_Test_L0 fu k (y5 + (1 : Int)) y6
   )
  ) else (
   some (Ex.go y6)
  )
def M_slices_Compact_impl_Test_impl_Test (fu : Nat) (p0 : List T_impl_Test) : Option (List T_impl_Test) :=
 bif (decide ((p0.length : Int) < (2 : Int))) then (
  some p0
 ) else (
  cl true (M_slices_Compact_impl_Test_impl_Test_L0 fu fu (1 : Int) p0) fun rl2 =>
  exM rl2 (fun r => some r) fun s4 =>
  some s4
 )
theorem M_slices_Compact_impl_Test_impl_Test_ok {fu : Nat} {A0 : Av} {p0 : List T_impl_Test} {r : List T_impl_Test} (hr : M_slices_Compact_impl_Test_impl_Test fu p0 = some r) {w : World} {v0 : Value} {B0 : Nat} (hA : AvOK A0 w) (hN : ∀ b o, A0 b o → ¬ ownsB v0 b) (h0 : (Res.vec B0 85 E_impl_Test p0).ok A0 v0 w) :
  Calls Try.prog 97 #[v0] w fun e w' => ∃ v, e = .returned v ∧ Took (addA A0 v0) true v0 (.vec B0 85 E_impl_Test r) (fun _ => .any) w v w' := by
 unfold M_slices_Compact_impl_Test_impl_Test at hr
 obtain ⟨w0, hw0⟩ : ∃ w0, w0 = w := ⟨_, rfl⟩
 have hF : Ch (ownsB v0) w0 w := hw0 ▸ Ch.refl _ _
 have hA0 : ∀ b o, A0 b o → b < w0.heap.size := fun b o h => hw0 ▸ hA b o h
 have hA00 : AvOK A0 w0 := hA0
 rw [show Took (addA A0 v0) true v0 (.vec B0 85 E_impl_Test r) (fun _ => .any) w = Took (addA A0 v0) true v0 (.vec B0 85 E_impl_Test r) (fun _ => .any) w0 from hw0 ▸ rfl]
 clear hw0
 obtain ⟨A, hAe⟩ : ∃ A, A = addA A0 v0 := ⟨_, rfl⟩
 have hAA : ∀ b o, A0 b o → A b o := fun b o h => hAe ▸ .inl h
 replace hA : AvOK A w := hAe ▸ hA.one h0
 have hO : IniOK [ob v0 (.vec B0 85 E_impl_Test p0)] A w := hAe ▸ IniOK.one h0 (fun _ _ _ _ _ h => h)
 refine calls_of_HT2 [.tmp 2] Try.func97 Try.ntmps97 (by decide) rfl rfl (Nat.le_of_ble_eq_true rfl) ?_
 intro R hR
 replace h0 : R 0 = v0 := hR 0 _ rfl
 clear hR hAe
 refine HT.seq ?_
 refine HT.text (l := ⟨_, true, .any⟩ :: []) (tl := []) (by kernel_rfl) (by kernel_rfl) (by kernel_rfl) ?_ ?_
 ·exact
   Obls.p (fun R' w' hw hs hd => of_assign trivial) <|
   Obls.nil
 intro R w hw hs hF'
 replace h0 := (hs 0 rfl).trans h0
 replace hO := hO.fr hw
 replace hA := hA.fr hw.size
 replace hF := hF.tr (hw.ch noB) fun _ h => False.elim h
 clear hs hF' hw
 refine seqR_nil ?_
 refine HT.seq ?_
 refine HT.seq ?_
 refine HT.text (l := ⟨_, true, .raw v0⟩ :: ⟨_, true, .raw (.int .i64 (p0.length : Int))⟩ :: ⟨_, true, .raw (.bool (decide ((p0.length : Int) < (2 : Int))))⟩ :: []) (tl := []) (by kernel_rfl) (by kernel_rfl) (by kernel_rfl) ?_ ?_
 ·exact
   Obls.p (fun R' w' hw hs hd => of_move ((hs 0 rfl).trans h0)) <|
   Obls.p (fun R' w' hw hs hd => by have a0 : R' 6 = v0 := hd.g 0 rfl; exact of_len_vec (hO.ok 0 _ rfl).1 a0 Try.underlying28) <|
   Obls.p (fun R' w' hw hs hd => by have a0 : R' 7 = .int .i64 (p0.length : Int) := hd.g 0 rfl; exact of_lss a0 rfl) <|
   Obls.nil
 intro R w hw hs hF'
 replace h0 := (hs 0 rfl).trans h0
 have h8 : R 8 = .bool (decide ((p0.length : Int) < (2 : Int))) := hF' 2 _ _ rfl rfl rfl
 replace hO := hO.fr hw
 replace hA := hA.fr hw.size
 replace hF := hF.tr (hw.ch noB) fun _ h => False.elim h
 clear hs hF' hw
 refine seqR_nil ?_
 refine HT.cond (decide ((p0.length : Int) < (2 : Int))) h8 (fun c1 => ?_) (fun c1 => ?_)
 ·have hr := cnd_t c1 hr
  refine HT.seq ?_
  refine HT.text (l := ⟨_, true, .raw v0⟩ :: ⟨_, true, .raw v0⟩ :: []) (tl := []) (by kernel_rfl) (by kernel_rfl) (by kernel_rfl) ?_ ?_
  ·exact
    Obls.p (fun R' w' hw hs hd => of_move ((hs 0 rfl).trans h0)) <|
    Obls.p (fun R' w' hw hs hd => by have a0 : R' 9 = v0 := hd.g 0 rfl; exact of_assign a0) <|
    Obls.nil
  intro R w hw hs hF'
  have h2 : R 2 = v0 := hF' 1 _ _ rfl rfl rfl
  replace hO := hO.fr hw
  replace hA := hA.fr hw.size
  replace hF := hF.tr (hw.ch noB) fun _ h => False.elim h
  clear hs hF' hw
  refine seqR_nil ?_
  refine HT.ret ?_
  obtain rfl := Option.some.inj hr
  exact ⟨.inr rfl, [R 2], ⟨rfl, trivial⟩, by show Took _ true _ _ _ w0 (R 2) w; rw [h2]; exact took_post (fun k h o => .inr h) hF (hO.ok 0 _ rfl).1 (hO.own_ge (⟨.inr (fun k h => .inr h), trivial⟩) (i := 0) rfl) (fun _ _ _ _ _ h => h)⟩
 ·have hr := cnd_f c1 hr
  refine HT.skip ?_
  refine HT.seq ?_
  refine HT.seq ?_
  refine HT.text (l := ⟨_, true, .raw (.int .i64 (1 : Int))⟩ :: []) (tl := []) (by kernel_rfl) (by kernel_rfl) (by kernel_rfl) ?_ ?_
  ·exact
    Obls.p (fun R' w' hw hs hd => of_assign rfl) <|
    Obls.nil
  intro R w hw hs hF'
  replace h0 := (hs 0 rfl).trans h0
  have h3 : R 3 = .int .i64 (1 : Int) := hF' 0 _ _ rfl rfl rfl
  replace hO := hO.fr hw
  replace hA := hA.fr hw.size
  replace hF := hF.tr (hw.ch noB) fun _ h => False.elim h
  clear hs hF' hw
  refine seqR_nil ?_
  obtain ⟨rl2, q3, hr⟩ := cl_some hr
  replace q3 := q3 rfl
  refine HT.cut0 (fun R w => ∃ A : Av, ∃ (s4 : (List T_impl_Test)), rl2 = Ex.go s4 ∧ AvOK A w ∧ Ch (ownsB v0) w0 w ∧ (∀ b o, A0 b o → A b o) ∧ IniOK [ob v0 (.vec B0 85 E_impl_Test s4)] A w ∧ R 0 = v0) ?_ ?_
  ·refine HT.block ?_
   refine HT.loop (fun k R w => ∃ A : Av, ∃ (y5 : Int) (y6 : List T_impl_Test), M_slices_Compact_impl_Test_impl_Test_L0 fu k y5 y6 = some rl2 ∧ AvOK A w ∧ Ch (ownsB v0) w0 w ∧ (∀ b o, A0 b o → A b o) ∧ IniOK [ob v0 (.vec B0 85 E_impl_Test y6)] A w ∧ R 0 = v0 ∧ R 3 = .int .i64 y5) fu ⟨_, _, _, q3, hA, hF, hAA, hO, h0, h3⟩ ?_
   have hr0 := hr; clear hr q3
   rintro k R w ⟨A, y5, y6, hr, hA, hF, hAA, hO, h0, h3⟩
   rcases k with _ | k
   ·cases (show none = some _ from hr)
   rw [M_slices_Compact_impl_Test_impl_Test_L0] at hr
   refine HT.seq ?_
   refine HT.seq ?_
   refine HT.text (l := ⟨_, true, .raw (.int .i64 y5)⟩ :: ⟨_, true, .raw v0⟩ :: ⟨_, true, .raw (.int .i64 (y6.length : Int))⟩ :: ⟨_, true, .raw (.bool (decide (y5 < (y6.length : Int))))⟩ :: []) (tl := []) (by kernel_rfl) (by kernel_rfl) (by kernel_rfl) ?_ ?_
   ·exact
     Obls.p (fun R' w' hw hs hd => of_move ((hs 3 rfl).trans h3)) <|
     Obls.p (fun R' w' hw hs hd => of_move ((hs 0 rfl).trans h0)) <|
     Obls.p (fun R' w' hw hs hd => by have a0 : R' 11 = v0 := hd.g 0 rfl; exact of_len_vec (hO.ok 0 _ rfl).1 a0 Try.underlying28) <|
     Obls.p (fun R' w' hw hs hd => by have a0 : R' 10 = .int .i64 y5 := hd.g 0 rfl; have a1 : R' 12 = .int .i64 (y6.length : Int) := hd.g 1 rfl; exact of_lss a0 a1) <|
     Obls.nil
   intro R w hw hs hF'
   replace h0 := (hs 0 rfl).trans h0
   replace h3 := (hs 3 rfl).trans h3
   have h13 : R 13 = .bool (decide (y5 < (y6.length : Int))) := hF' 3 _ _ rfl rfl rfl
   replace hO := hO.fr hw
   replace hA := hA.fr hw.size
   replace hF := hF.tr (hw.ch noB) fun _ h => False.elim h
   clear hs hF' hw
   refine seqR_nil ?_
   refine HT.cond (decide (y5 < (y6.length : Int))) h13 (fun c7 => ?_) (fun c7 => ?_)
   ·have hr := cnd_t c7 hr
    refine HT.skip ?_
    refine HT.seq ?_
    refine HT.block ?_
    refine HT.seq ?_
    obtain ⟨e8, hr⟩ := ck_some hr
    obtain ⟨e9, hr⟩ := ck_some hr
    obtain ⟨e10, hr⟩ := ck_some hr
    refine HT.draw (by kernel_rfl) (l := ⟨_, true, .raw v0⟩ :: ⟨_, true, .raw (.int .i64 y5)⟩ :: ⟨_, true, .raw (vptr v0 (y5.toNat * 3))⟩ :: ⟨_, true, .rep E_impl_Test A (gtD y6 y5)⟩ :: ⟨_, true, .raw v0⟩ :: ⟨_, true, .raw (.int .i64 y5)⟩ :: ⟨_, true, .raw (.int .i64 (y5 - (1 : Int)))⟩ :: ⟨_, true, .raw (vptr v0 ((y5 - (1 : Int)).toNat * 3))⟩ :: ⟨_, true, .rep E_impl_Test A (gtD y6 (y5 - (1 : Int)))⟩ :: ⟨_, true, .raw (.bool ((gtD y6 y5) == (gtD y6 (y5 - (1 : Int)))))⟩ :: []) (tl := []) (by kernel_rfl) (by kernel_rfl) (by kernel_rfl) (by kernel_rfl) ?_ ?_
    ·exact
      Obls.p (fun R' w' hw hs hd => of_move ((hs 0 rfl).trans h0)) <|
      Obls.p (fun R' w' hw hs hd => of_move ((hs 3 rfl).trans h3)) <|
      Obls.p (fun R' w' hw hs hd => by have a0 : R' 16 = v0 := hd.g 0 rfl; have a1 : R' 17 = .int .i64 y5 := hd.g 1 rfl; exact of_indexAddr_vec (hO.ok 0 _ rfl).1 a0 a1 Try.underlying28 Try.sizeOf85 e8 rfl) <|
      Obls.p (fun R' w' hw hs hd => by have a0 : R' 18 = (vptr v0 (y5.toNat * 3)) := hd.g 0 rfl; exact (of_load_vec ((hO.fr hw).ok 0 _ rfl).1 a0 e8 rfl (Fld.id _) rfl Try.isAgg85 Try.sizeOf85)) <|
      Obls.p (fun R' w' hw hs hd => of_move ((hs 0 rfl).trans h0)) <|
      Obls.p (fun R' w' hw hs hd => of_move ((hs 3 rfl).trans h3)) <|
      Obls.p (fun R' w' hw hs hd => by have a0 : R' 21 = .int .i64 y5 := hd.g 0 rfl; exact of_sub a0 rfl e9) <|
      Obls.p (fun R' w' hw hs hd => by have a0 : R' 20 = v0 := hd.g 0 rfl; have a1 : R' 22 = .int .i64 (y5 - (1 : Int)) := hd.g 1 rfl; exact of_indexAddr_vec (hO.ok 0 _ rfl).1 a0 a1 Try.underlying28 Try.sizeOf85 e10 rfl) <|
      Obls.p (fun R' w' hw hs hd => by have a0 : R' 23 = (vptr v0 ((y5 - (1 : Int)).toNat * 3)) := hd.g 0 rfl; exact (of_load_vec ((hO.fr hw).ok 0 _ rfl).1 a0 e10 rfl (Fld.id _) rfl Try.isAgg85 Try.sizeOf85)) <|
      Obls.p (fun R' w' hw hs hd => by have a0 : Rep E_impl_Test A w' (R' 19) (gtD y6 y5) := hd.g 0 rfl; have a1 : Rep E_impl_Test A w' (R' 24) (gtD y6 (y5 - (1 : Int))) := hd.g 1 rfl; exact of_struct_eql Try.eqGuardType85 (val_impl_Test a0) (val_impl_Test a1) (eql_85 (gtD y6 y5) (gtD y6 (y5 - (1 : Int))) _)) <|
      Obls.nil
    intro R w hw hs hF'
    replace h0 := (hs 0 rfl).trans h0
    replace h3 := (hs 3 rfl).trans h3
    have h25 : R 25 = .bool ((gtD y6 y5) == (gtD y6 (y5 - (1 : Int)))) := hF' 9 _ _ rfl rfl rfl
    replace hO := hO.fr hw
    replace hA := hA.fr hw.size
    replace hF := hF.tr (hw.ch noB) fun _ h => False.elim h
    clear hs hF' hw
    refine seqR_nil ?_
    refine HT.cond ((gtD y6 y5) == (gtD y6 (y5 - (1 : Int)))) h25 (fun c11 => ?_) (fun c11 => ?_)
    ·have hr := cnd_t c11 hr
     refine HT.seq ?_
     obtain ⟨e12, hr⟩ := ck_some hr
     obtain ⟨x13, q14, hr⟩ := bd_some hr
     refine HT.text (l := ⟨_, true, .raw v0⟩ :: ⟨_, true, .raw (.int .i64 y5)⟩ :: ⟨_, true, .raw (vsub v0 y5.toNat x13 3)⟩ :: ⟨_, true, .raw (vsub v0 y5.toNat x13 3)⟩ :: []) (tl := []) (by kernel_rfl) (by kernel_rfl) (by kernel_rfl) ?_ ?_
     ·exact
       Obls.p (fun R' w' hw hs hd => of_move ((hs 0 rfl).trans h0)) <|
       Obls.p (fun R' w' hw hs hd => of_move ((hs 3 rfl).trans h3)) <|
       Obls.p (fun R' w' hw hs hd => by have a0 : R' 26 = v0 := hd.g 0 rfl; have a1 : R' 27 = .int .i64 y5 := hd.g 1 rfl; exact (q14 ▸ of_view (hO.ok 0 _ rfl).1 a0 a1 Try.underlying28 Try.sizeOf85 e12)) <|
       Obls.p (fun R' w' hw hs hd => by have a0 : R' 28 = (vsub v0 y5.toNat x13 3) := hd.g 0 rfl; exact of_assign a0) <|
       Obls.nil
     intro R w hw hs hF'
     replace h0 := (hs 0 rfl).trans h0
     replace h3 := (hs 3 rfl).trans h3
     have h4 : R 4 = (vsub v0 y5.toNat x13 3) := hF' 3 _ _ rfl rfl rfl
     replace hO := hO.fr hw
     replace hA := hA.fr hw.size
     replace hF := hF.tr (hw.ch noB) fun _ h => False.elim h
     clear hs hF' hw
     refine seqR_nil ?_
     refine HT.seq ?_
     refine HT.seq ?_
     refine HT.text (l := ⟨_, true, .raw (.int .i64 (1 : Int))⟩ :: []) (tl := []) (by kernel_rfl) (by kernel_rfl) (by kernel_rfl) ?_ ?_
     ·exact
       Obls.p (fun R' w' hw hs hd => of_assign rfl) <|
       Obls.nil
     intro R w hw hs hF'
     replace h0 := (hs 0 rfl).trans h0
     replace h3 := (hs 3 rfl).trans h3
     replace h4 := (hs 4 rfl).trans h4
     have h5 : R 5 = .int .i64 (1 : Int) := hF' 0 _ _ rfl rfl rfl
     replace hO := hO.fr hw
     replace hA := hA.fr hw.size
     replace hF := hF.tr (hw.ch noB) fun _ h => False.elim h
     clear hs hF' hw
     refine seqR_nil ?_
     obtain ⟨rl15, q16, hr⟩ := cl_some hr
     replace q16 := q16 rfl
     refine HT.cut0 (fun R w => ∃ A : Av, ∃ (s17 : Int × (List T_impl_Test)), rl15 = s17 ∧ AvOK A w ∧ Ch (ownsB v0) w0 w ∧ (∀ b o, A0 b o → A b o) ∧ IniOK [ob v0 (.vec B0 85 E_impl_Test s17.2)] A w ∧ R 0 = v0 ∧ R 3 = .int .i64 s17.1) ?_ ?_
     ·refine HT.block ?_
      refine HT.loop (fun k R w => ∃ A : Av, ∃ (y18 : Int) (y19 : Int) (y20 : List T_impl_Test), M_slices_Compact_impl_Test_impl_Test_L1 fu y5 x13 k y18 y19 y20 = some rl15 ∧ AvOK A w ∧ Ch (ownsB v0) w0 w ∧ (∀ b o, A0 b o → A b o) ∧ IniOK [ob v0 (.vec B0 85 E_impl_Test y20)] A w ∧ R 0 = v0 ∧ R 3 = .int .i64 y18 ∧ R 4 = (vsub v0 y5.toNat x13 3) ∧ R 5 = .int .i64 y19) fu ⟨_, _, _, _, q16, hA, hF, hAA, hO, h0, h3, h4, h5⟩ ?_
      have hr1 := hr; clear hr q16
      rintro k R w ⟨A, y18, y19, y20, hr, hA, hF, hAA, hO, h0, h3, h4, h5⟩
      rcases k with _ | k
      ·cases (show none = some _ from hr)
      rw [M_slices_Compact_impl_Test_impl_Test_L1] at hr
      refine HT.seq ?_
      refine HT.seq ?_
      refine HT.text (l := ⟨_, true, .raw (.int .i64 y19)⟩ :: ⟨_, true, .raw (vsub v0 y5.toNat x13 3)⟩ :: ⟨_, true, .raw (.int .i64 (x13 : Int))⟩ :: ⟨_, true, .raw (.bool (decide (y19 < (x13 : Int))))⟩ :: []) (tl := []) (by kernel_rfl) (by kernel_rfl) (by kernel_rfl) ?_ ?_
      ·exact
        Obls.p (fun R' w' hw hs hd => of_move ((hs 5 rfl).trans h5)) <|
        Obls.p (fun R' w' hw hs hd => of_move ((hs 4 rfl).trans h4)) <|
        Obls.p (fun R' w' hw hs hd => by have a0 : R' 30 = (vsub v0 y5.toNat x13 3) := hd.g 0 rfl; exact of_len_view (hO.ok 0 _ rfl).1 a0 Try.underlying28) <|
        Obls.p (fun R' w' hw hs hd => by have a0 : R' 29 = .int .i64 y19 := hd.g 0 rfl; have a1 : R' 31 = .int .i64 (x13 : Int) := hd.g 1 rfl; exact of_lss a0 a1) <|
        Obls.nil
      intro R w hw hs hF'
      replace h0 := (hs 0 rfl).trans h0
      replace h3 := (hs 3 rfl).trans h3
      replace h4 := (hs 4 rfl).trans h4
      replace h5 := (hs 5 rfl).trans h5
      have h32 : R 32 = .bool (decide (y19 < (x13 : Int))) := hF' 3 _ _ rfl rfl rfl
      replace hO := hO.fr hw
      replace hA := hA.fr hw.size
      replace hF := hF.tr (hw.ch noB) fun _ h => False.elim h
      clear hs hF' hw
      refine seqR_nil ?_
      refine HT.cond (decide (y19 < (x13 : Int))) h32 (fun c21 => ?_) (fun c21 => ?_)
      ·have hr := cnd_t c21 hr
       refine HT.skip ?_
       refine HT.seq ?_
       refine HT.block ?_
       refine HT.seq ?_
       obtain ⟨e22, hr⟩ := ck_some hr
       obtain ⟨e23, hr⟩ := ck_some hr
       obtain ⟨e24, hr⟩ := ck_some hr
       obtain ⟨e25, hr⟩ := ck_some hr
       obtain ⟨e26, hr⟩ := ck_some hr
       obtain ⟨e27, hr⟩ := ck_some hr
       obtain ⟨e28, hr⟩ := ck_some hr
       refine HT.draw (by kernel_rfl) (l := ⟨_, true, .raw (vsub v0 y5.toNat x13 3)⟩ :: ⟨_, true, .raw (.int .i64 y19)⟩ :: ⟨_, true, .raw (vptr v0 ((y5 + y19).toNat * 3))⟩ :: ⟨_, true, .rep E_impl_Test A (gtD y20 (y5 + y19))⟩ :: ⟨_, true, .raw (vsub v0 y5.toNat x13 3)⟩ :: ⟨_, true, .raw (.int .i64 y19)⟩ :: ⟨_, true, .raw (.int .i64 (y19 - (1 : Int)))⟩ :: ⟨_, true, .raw (vptr v0 ((y5 + (y19 - (1 : Int))).toNat * 3))⟩ :: ⟨_, true, .rep E_impl_Test A (gtD y20 (y5 + (y19 - (1 : Int))))⟩ :: ⟨_, true, .raw (.bool (!((gtD y20 (y5 + y19)) == (gtD y20 (y5 + (y19 - (1 : Int)))))))⟩ :: []) (tl := []) (by kernel_rfl) (by kernel_rfl) (by kernel_rfl) (by kernel_rfl) ?_ ?_
       ·exact
         Obls.p (fun R' w' hw hs hd => of_move ((hs 4 rfl).trans h4)) <|
         Obls.p (fun R' w' hw hs hd => of_move ((hs 5 rfl).trans h5)) <|
         Obls.p (fun R' w' hw hs hd => by have a0 : R' 35 = (vsub v0 y5.toNat x13 3) := hd.g 0 rfl; have a1 : R' 36 = .int .i64 y19 := hd.g 1 rfl; exact of_indexAddr_view (hO.ok 0 _ rfl).1 a0 a1 Try.underlying28 Try.sizeOf85 e22 e23 e24 rfl) <|
         Obls.p (fun R' w' hw hs hd => by have a0 : R' 37 = (vptr v0 ((y5 + y19).toNat * 3)) := hd.g 0 rfl; exact (of_load_vec ((hO.fr hw).ok 0 _ rfl).1 a0 e24 rfl (Fld.id _) rfl Try.isAgg85 Try.sizeOf85)) <|
         Obls.p (fun R' w' hw hs hd => of_move ((hs 4 rfl).trans h4)) <|
         Obls.p (fun R' w' hw hs hd => of_move ((hs 5 rfl).trans h5)) <|
         Obls.p (fun R' w' hw hs hd => by have a0 : R' 40 = .int .i64 y19 := hd.g 0 rfl; exact of_sub a0 rfl e25) <|
         Obls.p (fun R' w' hw hs hd => by have a0 : R' 39 = (vsub v0 y5.toNat x13 3) := hd.g 0 rfl; have a1 : R' 41 = .int .i64 (y19 - (1 : Int)) := hd.g 1 rfl; exact of_indexAddr_view (hO.ok 0 _ rfl).1 a0 a1 Try.underlying28 Try.sizeOf85 e26 e27 e28 rfl) <|
         Obls.p (fun R' w' hw hs hd => by have a0 : R' 42 = (vptr v0 ((y5 + (y19 - (1 : Int))).toNat * 3)) := hd.g 0 rfl; exact (of_load_vec ((hO.fr hw).ok 0 _ rfl).1 a0 e28 rfl (Fld.id _) rfl Try.isAgg85 Try.sizeOf85)) <|
         Obls.p (fun R' w' hw hs hd => by have a0 : Rep E_impl_Test A w' (R' 38) (gtD y20 (y5 + y19)) := hd.g 0 rfl; have a1 : Rep E_impl_Test A w' (R' 43) (gtD y20 (y5 + (y19 - (1 : Int)))) := hd.g 1 rfl; exact of_struct_neq Try.eqGuardType85 (val_impl_Test a0) (val_impl_Test a1) (neq_85 (gtD y20 (y5 + y19)) (gtD y20 (y5 + (y19 - (1 : Int)))) _)) <|
         Obls.nil
       intro R w hw hs hF'
       replace h0 := (hs 0 rfl).trans h0
       replace h3 := (hs 3 rfl).trans h3
       replace h4 := (hs 4 rfl).trans h4
       replace h5 := (hs 5 rfl).trans h5
       have h44 : R 44 = .bool (!((gtD y20 (y5 + y19)) == (gtD y20 (y5 + (y19 - (1 : Int)))))) := hF' 9 _ _ rfl rfl rfl
       replace hO := hO.fr hw
       replace hA := hA.fr hw.size
       replace hF := hF.tr (hw.ch noB) fun _ h => False.elim h
       clear hs hF' hw
       refine seqR_nil ?_
       refine HT.cond (!((gtD y20 (y5 + y19)) == (gtD y20 (y5 + (y19 - (1 : Int)))))) h44 (fun c29 => ?_) (fun c29 => ?_)
       ·have hr := cnd_t c29 hr
        refine HT.seq ?_
        obtain ⟨e30, hr⟩ := ck_some hr
        obtain ⟨e31, hr⟩ := ck_some hr
        obtain ⟨e32, hr⟩ := ck_some hr
        obtain ⟨e33, hr⟩ := ck_some hr
        refine HT.textR [ob v0 (.vec B0 85 E_impl_Test y20)] (⟨_, true, [], none, true, fun A => .raw v0⟩ :: ⟨_, true, [], none, true, fun A => .raw (.int .i64 y18)⟩ :: ⟨_, true, [], none, true, fun A => .raw (vsub v0 y5.toNat x13 3)⟩ :: ⟨_, true, [], none, true, fun A => .raw (.int .i64 y19)⟩ :: ⟨_, true, [], none, true, fun A => .raw (vptr v0 ((y5 + y19).toNat * 3))⟩ :: ⟨_, true, [], none, true, fun A => .rep E_impl_Test A (gtD y20 (y5 + y19))⟩ :: ⟨_, true, [], none, true, fun A => .raw (vptr v0 (y18.toNat * 3))⟩ :: ⟨_, true, [0], some (.vec B0 85 E_impl_Test (y20.set y18.toNat (gtD y20 (y5 + y19)))), false, fun A => .any⟩ :: []) (by kernel_rfl) (by kernel_rfl) (Wf.mk' (by kernel_rfl) (UAll.cons ust_raw (UAll.cons ust_raw (UAll.cons ust_raw (UAll.cons ust_raw (UAll.cons ust_raw (UAll.cons ust_rep (UAll.cons ust_raw (UAll.cons ust_any (UAll.nil))))))))) (by kernel_rfl) (by kernel_rfl)) hO hA ?_ ?_
        ·exact
          OblsR.p (fun A' R' w' ho hd => of_move ((ho.old 0 rfl).trans h0)) <|
          OblsR.p (fun A' R' w' ho hd => of_move ((ho.old 3 rfl).trans h3)) <|
          OblsR.p (fun A' R' w' ho hd => of_move ((ho.old 4 rfl).trans h4)) <|
          OblsR.p (fun A' R' w' ho hd => of_move ((ho.old 5 rfl).trans h5)) <|
          OblsR.p (fun A' R' w' ho hd => by have a0 : R' 47 = (vsub v0 y5.toNat x13 3) := hd.g 0 rfl; have a1 : R' 48 = .int .i64 y19 := hd.g 1 rfl; exact of_indexAddr_view (hO.ok 0 _ rfl).1 a0 a1 Try.underlying28 Try.sizeOf85 e30 e31 e32 rfl) <|
          OblsR.p (fun A' R' w' ho hd => by have a0 : R' 49 = (vptr v0 ((y5 + y19).toNat * 3)) := hd.g 0 rfl; exact (of_load_vec (ho.rd 0 _ rfl rfl) a0 e32 rfl (Fld.id _) rfl Try.isAgg85 Try.sizeOf85)) <|
          OblsR.p (fun A' R' w' ho hd => by have a0 : R' 45 = v0 := hd.g 0 rfl; have a1 : R' 46 = .int .i64 y18 := hd.g 1 rfl; exact of_indexAddr_vec (hO.ok 0 _ rfl).1 a0 a1 Try.underlying28 Try.sizeOf85 e33 rfl) <|
          OblsR.cons (OblR.took 0 _ _ rfl rfl rfl rfl rfl fun A' R' w' ho hd u hok hav hin hop hds => by have a0 : R' 51 = (vptr v0 (y18.toNat * 3)) := hd.g 0 rfl; have a1 : Rep E_impl_Test A' w' (R' 50) (gtD y20 (y5 + y19)) := hd.g 1 rfl; obtain rfl := hin _ rfl; exact took_vstore a1 hok hav a0 e33 rfl (FldS.id _) Try.sizeOf85 rfl) <|
          OblsR.nil
        intro done ρ σ A R w hdn hI
        replace h0 : R 0 = v0 := (hI.reg rfl).trans h0
        replace h3 : R 3 = .int .i64 y18 := (hI.reg rfl).trans h3
        replace h4 : R 4 = (vsub v0 y5.toNat x13 3) := (hI.reg rfl).trans h4
        replace h5 : R 5 = .int .i64 y19 := (hI.reg rfl).trans h5
        have z34 := hI.inivR 0 rfl
        have z35 := (hI.opnR hdn 8 7 rfl rfl rfl rfl rfl).trans z34
        replace hAA := hI.lowK hAA hA0 hN (hO.geK (⟨.inr (fun k h => .inr h), trivial⟩))
        replace hF : Ch (ownsB v0) w0 w := hF.tr hI.ch (hO.geK (⟨.inr (fun k h => .inr h), trivial⟩))
        replace hO : IniOK [ob v0 (.vec B0 85 E_impl_Test (y20.set y18.toNat (gtD y20 (y5 + y19))))] A w := hI.left hdn [(8, ob v0 (.vec B0 85 E_impl_Test (y20.set y18.toNat (gtD y20 (y5 + y19)))))] ⟨rfl, rfl, z35, rfl, rfl, trivial⟩
        replace hA := hI.avok
        clear hI
        obtain ⟨e36, hr⟩ := ck_some hr
        refine HT.text (l := ⟨_, true, .raw (.int .i64 y18)⟩ :: ⟨_, true, .raw (.int .i64 (y18 + (1 : Int)))⟩ :: ⟨_, true, .raw (.int .i64 (y18 + (1 : Int)))⟩ :: []) (tl := []) (by kernel_rfl) (by kernel_rfl) (by kernel_rfl) ?_ ?_
        ·exact
          Obls.p (fun R' w' hw hs hd => of_move ((hs 3 rfl).trans h3)) <|
          Obls.p (fun R' w' hw hs hd => by have a0 : R' 52 = .int .i64 y18 := hd.g 0 rfl; exact of_add a0 rfl e36) <|
          Obls.p (fun R' w' hw hs hd => by have a0 : R' 53 = .int .i64 (y18 + (1 : Int)) := hd.g 0 rfl; exact of_assign a0) <|
          Obls.nil
        intro R w hw hs hF'
        replace h0 := (hs 0 rfl).trans h0
        replace h4 := (hs 4 rfl).trans h4
        replace h5 := (hs 5 rfl).trans h5
        have h3 : R 3 = .int .i64 (y18 + (1 : Int)) := hF' 2 _ _ rfl rfl rfl
        replace hO := hO.fr hw
        replace hA := hA.fr hw.size
        replace hF := hF.tr (hw.ch noB) fun _ h => False.elim h
        clear hs hF' hw
        refine seqR_nil ?_
        obtain ⟨e37, hr⟩ := ck_some hr
        refine HT.text (l := ⟨_, true, .raw (.int .i64 y19)⟩ :: ⟨_, true, .raw (.int .i64 (y19 + (1 : Int)))⟩ :: ⟨_, true, .raw (.int .i64 (y19 + (1 : Int)))⟩ :: []) (tl := []) (by kernel_rfl) (by kernel_rfl) (by kernel_rfl) ?_ ?_
        ·exact
          Obls.p (fun R' w' hw hs hd => of_move ((hs 5 rfl).trans h5)) <|
          Obls.p (fun R' w' hw hs hd => by have a0 : R' 33 = .int .i64 y19 := hd.g 0 rfl; exact of_add a0 rfl e37) <|
          Obls.p (fun R' w' hw hs hd => by have a0 : R' 34 = .int .i64 (y19 + (1 : Int)) := hd.g 0 rfl; exact of_assign a0) <|
          Obls.nil
        intro R w hw hs hF'
        replace h0 := (hs 0 rfl).trans h0
        replace h3 := (hs 3 rfl).trans h3
        replace h4 := (hs 4 rfl).trans h4
        have h5 : R 5 = .int .i64 (y19 + (1 : Int)) := hF' 2 _ _ rfl rfl rfl
        replace hO := hO.fr hw
        replace hA := hA.fr hw.size
        replace hF := hF.tr (hw.ch noB) fun _ h => False.elim h
        clear hs hF' hw
        refine seqR_nil ?_
        exact Exists.intro k (And.intro (Nat.lt_succ_self k) ⟨_, _, _, _, hr, hA, hF, hAA, hO, h0, h3, h4, h5⟩)
       ·have hr := cnd_f c29 hr
        refine HT.skip ?_
        obtain ⟨e38, hr⟩ := ck_some hr
        refine HT.text (l := ⟨_, true, .raw (.int .i64 y19)⟩ :: ⟨_, true, .raw (.int .i64 (y19 + (1 : Int)))⟩ :: ⟨_, true, .raw (.int .i64 (y19 + (1 : Int)))⟩ :: []) (tl := []) (by kernel_rfl) (by kernel_rfl) (by kernel_rfl) ?_ ?_
        ·exact
          Obls.p (fun R' w' hw hs hd => of_move ((hs 5 rfl).trans h5)) <|
          Obls.p (fun R' w' hw hs hd => by have a0 : R' 33 = .int .i64 y19 := hd.g 0 rfl; exact of_add a0 rfl e38) <|
          Obls.p (fun R' w' hw hs hd => by have a0 : R' 34 = .int .i64 (y19 + (1 : Int)) := hd.g 0 rfl; exact of_assign a0) <|
          Obls.nil
        intro R w hw hs hF'
        replace h0 := (hs 0 rfl).trans h0
        replace h3 := (hs 3 rfl).trans h3
        replace h4 := (hs 4 rfl).trans h4
        have h5 : R 5 = .int .i64 (y19 + (1 : Int)) := hF' 2 _ _ rfl rfl rfl
        replace hO := hO.fr hw
        replace hA := hA.fr hw.size
        replace hF := hF.tr (hw.ch noB) fun _ h => False.elim h
        clear hs hF' hw
        refine seqR_nil ?_
        exact Exists.intro k (And.intro (Nat.lt_succ_self k) ⟨_, _, _, _, hr, hA, hF, hAA, hO, h0, h3, h4, h5⟩)
      ·have hr := cnd_f c21 hr
       refine HT.exit ?_
       obtain rfl := Option.some.inj hr
       exact Exists.intro _ ⟨_, rfl, hA, hF, hAA, hO, h0, h3⟩
     rintro R w ⟨A, s17, es, hA, hF, hAA, hO, h0, h3⟩
     obtain rfl := es.symm
     refine HT.seq ?_
     obtain ⟨e39, hr⟩ := ck_some hr
     obtain ⟨x40, q41, hr⟩ := bd_some hr
     obtain ⟨e42, hr⟩ := ck_some hr
     obtain ⟨e43, hr⟩ := ck_some hr
     refine HT.textR [ob v0 (.vec B0 85 E_impl_Test s17.2)] (⟨_, true, [], none, true, fun A => .raw v0⟩ :: ⟨_, true, [], none, true, fun A => .raw (.int .i64 s17.1)⟩ :: ⟨_, true, [], none, true, fun A => .raw (vsub v0 s17.1.toNat x40 3)⟩ :: ⟨_, true, [0], some (.vec B0 85 E_impl_Test (s17.2.take s17.1.toNat ++ List.replicate (s17.2.length - s17.1.toNat) ((0 : Int), ((0 : Int), false)))), false, fun A => .any⟩ :: []) (by kernel_rfl) (by kernel_rfl) (Wf.mk' (by kernel_rfl) (UAll.cons ust_raw (UAll.cons ust_raw (UAll.cons ust_raw (UAll.cons ust_any (UAll.nil))))) (by kernel_rfl) (by kernel_rfl)) hO hA ?_ ?_
     ·exact
       OblsR.p (fun A' R' w' ho hd => of_move ((ho.old 0 rfl).trans h0)) <|
       OblsR.p (fun A' R' w' ho hd => of_move ((ho.old 3 rfl).trans h3)) <|
       OblsR.p (fun A' R' w' ho hd => by have a0 : R' 54 = v0 := hd.g 0 rfl; have a1 : R' 55 = .int .i64 s17.1 := hd.g 1 rfl; exact (q41 ▸ of_view (hO.ok 0 _ rfl).1 a0 a1 Try.underlying28 Try.sizeOf85 e39)) <|
       OblsR.cons (OblR.took 0 _ _ rfl rfl rfl rfl rfl fun A' R' w' ho hd u hok hav hin hop hds => by have a0 : R' 56 = (vsub v0 s17.1.toNat x40 3) := hd.g 0 rfl; obtain rfl := hin _ rfl; exact took_clear a0 hok hav Try.underlying28 rfl Try.zeroValue85 (fun A w => rep_pr rep1_int (rep_pr rep1_int rep1_bool)) e42 e43 rfl) <|
       OblsR.nil
     intro done ρ σ A R w hdn hI
     replace h0 : R 0 = v0 := (hI.reg rfl).trans h0
     replace h3 : R 3 = .int .i64 s17.1 := (hI.reg rfl).trans h3
     have z44 := hI.inivR 0 rfl
     have z45 := (hI.opnR hdn 4 3 rfl rfl rfl rfl rfl).trans z44
     replace hAA := hI.lowK hAA hA0 hN (hO.geK (⟨.inr (fun k h => .inr h), trivial⟩))
     replace hF : Ch (ownsB v0) w0 w := hF.tr hI.ch (hO.geK (⟨.inr (fun k h => .inr h), trivial⟩))
     replace hO : IniOK [ob v0 (.vec B0 85 E_impl_Test (s17.2.take s17.1.toNat ++ List.replicate (s17.2.length - s17.1.toNat) ((0 : Int), ((0 : Int), false))))] A w := hI.left hdn [(4, ob v0 (.vec B0 85 E_impl_Test (s17.2.take s17.1.toNat ++ List.replicate (s17.2.length - s17.1.toNat) ((0 : Int), ((0 : Int), false)))))] ⟨rfl, rfl, z45, rfl, rfl, trivial⟩
     replace hA := hI.avok
     clear hI
     refine HT.seq ?_
     obtain ⟨e46, hr⟩ := ck_some hr
     refine HT.textR [ob v0 (.vec B0 85 E_impl_Test (s17.2.take s17.1.toNat ++ List.replicate (s17.2.length - s17.1.toNat) ((0 : Int), ((0 : Int), false))))] (⟨_, true, [], none, true, fun A => .raw v0⟩ :: ⟨_, true, [], none, true, fun A => .raw (.int .i64 s17.1)⟩ :: ⟨_, true, [0], some (.vec B0 85 E_impl_Test (subL (s17.2.take s17.1.toNat ++ List.replicate (s17.2.length - s17.1.toNat) ((0 : Int), ((0 : Int), false))) 0 s17.1)), true, fun A => .any⟩ :: ⟨_, true, [3], some (.vec B0 85 E_impl_Test (subL (s17.2.take s17.1.toNat ++ List.replicate (s17.2.length - s17.1.toNat) ((0 : Int), ((0 : Int), false))) 0 s17.1)), true, fun A => .any⟩ :: []) (by kernel_rfl) (by kernel_rfl) (Wf.mk' (by kernel_rfl) (UAll.cons ust_raw (UAll.cons ust_raw (UAll.cons ust_any (UAll.cons ust_any (UAll.nil))))) (by kernel_rfl) (by kernel_rfl)) hO hA ?_ ?_
     ·exact
       OblsR.p (fun A' R' w' ho hd => of_move ((ho.old 0 rfl).trans h0)) <|
       OblsR.p (fun A' R' w' ho hd => of_move ((ho.old 3 rfl).trans h3)) <|
       OblsR.cons (OblR.took 0 _ _ rfl rfl rfl rfl rfl fun A' R' w' ho hd u hok hav hin hop hds => by have a0 : R' 57 = v0 := hd.g 0 rfl; have a1 : R' 58 = .int .i64 s17.1 := hd.g 1 rfl; exact took_prefix (a0.trans (hin _ rfl).symm) hok hav a1 Try.underlying28 Try.sizeOf85 e46 rfl) <|
       OblsR.cons (OblR.took 3 _ _ rfl rfl rfl rfl rfl fun A' R' w' ho hd u hok hav hin hop hds => by exact took_assign (hop _ _ rfl rfl rfl rfl).symm hok hav) <|
       OblsR.nil
     intro done ρ σ A R w hdn hI
     obtain ⟨u47, e_u47⟩ : ∃ u, ρ 4 = u := ⟨_, rfl⟩
     have h2 : R 2 = u47 := (hI.opvR hdn 4 3 rfl rfl rfl rfl rfl).symm.trans e_u47
     have hK_u47 : ∀ k, ownsB u47 k → w0.heap.size ≤ k ∨ (ownsB v0) k := hI.geK hdn 4 rfl rfl rfl e_u47 (hO.geK (⟨.inr (fun k h => .inr h), trivial⟩)) hF.size
     replace hAA := hI.lowK hAA hA0 hN (hO.geK (⟨.inr (fun k h => .inr h), trivial⟩))
     replace hF : Ch (ownsB v0) w0 w := hF.tr hI.ch (hO.geK (⟨.inr (fun k h => .inr h), trivial⟩))
     replace hO : IniOK [ob u47 (.vec B0 85 E_impl_Test (subL (s17.2.take s17.1.toNat ++ List.replicate (s17.2.length - s17.1.toNat) ((0 : Int), ((0 : Int), false))) 0 s17.1))] A w := hI.left hdn [(4, ob u47 (.vec B0 85 E_impl_Test (subL (s17.2.take s17.1.toNat ++ List.replicate (s17.2.length - s17.1.toNat) ((0 : Int), ((0 : Int), false))) 0 s17.1)))] ⟨rfl, rfl, e_u47, rfl, rfl, trivial⟩
     replace hA := hI.avok
     clear hI
     refine HT.ret ?_
     obtain rfl := Option.some.inj hr
     have hr := hr0
     replace hr : some _ = some _ := hr
     obtain rfl := Option.some.inj hr
     exact ⟨.inr rfl, [R 2], ⟨rfl, trivial⟩, by show Took _ true _ _ _ w0 (R 2) w; rw [h2]; exact took_post (fun k h o => .inr h) hF (hO.ok 0 _ rfl).1 (hO.own_ge (⟨.inr hK_u47, trivial⟩) (i := 0) rfl) (fun _ _ _ _ _ h => h)⟩
    ·have hr := cnd_f c11 hr
     refine HT.skip ?_
     obtain ⟨e48, hr⟩ := ck_some hr
     refine HT.text (l := ⟨_, true, .raw (.int .i64 y5)⟩ :: ⟨_, true, .raw (.int .i64 (y5 + (1 : Int)))⟩ :: ⟨_, true, .raw (.int .i64 (y5 + (1 : Int)))⟩ :: []) (tl := []) (by kernel_rfl) (by kernel_rfl) (by kernel_rfl) ?_ ?_
     ·exact
       Obls.p (fun R' w' hw hs hd => of_move ((hs 3 rfl).trans h3)) <|
       Obls.p (fun R' w' hw hs hd => by have a0 : R' 14 = .int .i64 y5 := hd.g 0 rfl; exact of_add a0 rfl e48) <|
       Obls.p (fun R' w' hw hs hd => by have a0 : R' 15 = .int .i64 (y5 + (1 : Int)) := hd.g 0 rfl; exact of_assign a0) <|
       Obls.nil
     intro R w hw hs hF'
     replace h0 := (hs 0 rfl).trans h0
     have h3 : R 3 = .int .i64 (y5 + (1 : Int)) := hF' 2 _ _ rfl rfl rfl
     replace hO := hO.fr hw
     replace hA := hA.fr hw.size
     replace hF := hF.tr (hw.ch noB) fun _ h => False.elim h
     clear hs hF' hw
     refine seqR_nil ?_
     exact Exists.intro k (And.intro (Nat.lt_succ_self k) ⟨_, _, _, hr, hA, hF, hAA, hO, h0, h3⟩)
   ·have hr := cnd_f c7 hr
    refine HT.exit ?_
    obtain rfl := Option.some.inj hr
    exact Exists.intro _ ⟨_, rfl, hA, hF, hAA, hO, h0⟩
  rintro R w ⟨A, s4, rfl, hA, hF, hAA, hO, h0⟩
  have hr := exM_go hr
  refine HT.seq ?_
  refine HT.text (l := ⟨_, true, .raw v0⟩ :: ⟨_, true, .raw v0⟩ :: []) (tl := []) (by kernel_rfl) (by kernel_rfl) (by kernel_rfl) ?_ ?_
  ·exact
    Obls.p (fun R' w' hw hs hd => of_move ((hs 0 rfl).trans h0)) <|
    Obls.p (fun R' w' hw hs hd => by have a0 : R' 60 = v0 := hd.g 0 rfl; exact of_assign a0) <|
    Obls.nil
  intro R w hw hs hF'
  have h2 : R 2 = v0 := hF' 1 _ _ rfl rfl rfl
  replace hO := hO.fr hw
  replace hA := hA.fr hw.size
  replace hF := hF.tr (hw.ch noB) fun _ h => False.elim h
  clear hs hF' hw
  refine seqR_nil ?_
  refine HT.ret ?_
  obtain rfl := Option.some.inj hr
  exact ⟨.inr rfl, [R 2], ⟨rfl, trivial⟩, by show Took _ true _ _ _ w0 (R 2) w; rw [h2]; exact took_post (fun k h o => .inr h) hF (hO.ok 0 _ rfl).1 (hO.own_ge (⟨.inr (fun k h => .inr h), trivial⟩) (i := 0) rfl) (fun _ _ _ _ _ h => h)⟩
def M_impl_DiagramVariables_L0 (fu : Nat) (x6 : List T_impl_Test) : Nat → Int → (List T_impl_Test) → Option (List T_impl_Test)
 | 0, _, _ => none
 | k + 1, y13, y14 =>
  bif (decide (y13 < (x6.length : Int))) then (
   ck (inR y13 y14.length) <|
   ck (i64B (y13 + (1 : Int))) <|
   M_impl_DiagramVariables_L0 fu x6 k (y13 + (1 : Int)) (y14.set y13.toNat ((gtD y14 y13).1, (gtD y14 y13).2.1, false))
  ) else (
   some y14
  )
def M_impl_DiagramVariables (fu : Nat) (p0 : T_impl_RuleSet) : Option (List T_impl_Test) :=
 cl true (M_impl_IsValidRules fu p0) fun x2 =>
 bif (!x2) then (
  some ([] : List T_impl_Test)
 ) else (
  cl true (M_impl_allTests fu p0) fun x6 =>
  cl true (M_impl_DiagramVariables_L0 fu x6 fu (0 : Int) x6) fun s12 =>
  cl true (M_sortF fu s12 (fun x y => M_impl_DiagramVariables_1 fu x y)) fun x20 =>
  cl true (M_slices_Compact_impl_Test_impl_Test fu x20) fun x24 =>
  some x24
 )
theorem M_impl_DiagramVariables_ok {fu : Nat} {A0 : Av} {p0 : T_impl_RuleSet} {r : List T_impl_Test} (hr : M_impl_DiagramVariables fu p0 = some r) {w : World} {v0 : Value} (hA : AvOK A0 w) (h0 : Rep E_impl_RuleSet A0 w v0 p0) :
  Calls Try.prog 46 #[v0] w fun e w' => ∃ v, e = .returned v ∧ ((Res.vec w.heap.size 85 E_impl_Test r).ok (addA A0 v) v w' ∧ Fr w w') := by
 unfold M_impl_DiagramVariables at hr
 obtain ⟨w0, hw0⟩ : ∃ w0, w0 = w := ⟨_, rfl⟩
 have hF : Fr w0 w := hw0 ▸ Fr.refl _
 have hA0 : ∀ b o, A0 b o → b < w0.heap.size := fun b o h => hw0 ▸ hA b o h
 have hA00 : AvOK A0 w0 := hA0
 rw [show w.heap.size = w0.heap.size from hw0 ▸ rfl]
 rw [show Fr w = Fr w0 from hw0 ▸ rfl]
 clear hw0
 obtain ⟨A, hAe⟩ : ∃ A, A = A0 := ⟨_, rfl⟩
 have hAA : ∀ b o, A0 b o → A b o := fun b o h => hAe ▸ h
 replace hA : AvOK A w := hAe ▸ hA
 have hO : IniOK [] A w := IniOK.nil
 refine calls_of_HT2 [.tmp 2] Try.func46 Try.ntmps46 (by decide) rfl rfl (Nat.le_of_ble_eq_true rfl) ?_
 intro R hR
 have f_v0 : Rep E_impl_RuleSet A w v0 p0 := hAe ▸ h0
 replace h0 : R 0 = v0 := hR 0 _ rfl
 clear hR hAe
 refine HT.seq ?_
 refine HT.textR [] (⟨_, true, [], some (.box w0.heap.size 62 E_impl_RuleSet p0), true, fun A => .any⟩ :: ⟨_, true, [], none, true, fun A => .any⟩ :: []) (by kernel_rfl) (by kernel_rfl) (Wf.mk' (by kernel_rfl) (UAll.cons ust_any (UAll.cons ust_any (UAll.nil))) (by kernel_rfl) (by kernel_rfl)) hO hA ?_ ?_
 ·exact
   OblsR.cons (OblR.made _ rfl rfl rfl rfl fun A' R' w' ho hd => by have a0 : R' 0 = v0 := (ho.old 0 rfl).trans h0; have ra0 := (f_v0.stp ho.stp).eq a0; exact made_box ra0 (Nat.le_trans hF.size ho.ch.size)) <|
   OblsR.p (fun A' R' w' ho hd => of_assign trivial) <|
   OblsR.nil
 intro done ρ σ A R w hdn hI
 obtain ⟨b1_0, e_b1_0⟩ := hI.boxv hdn 0 rfl rfl
 have h1 : R 1 = (.pointer (some ⟨b1_0, 0, none⟩)) := (hI.opvR hdn 0 0 rfl rfl rfl rfl rfl).symm.trans e_b1_0
 replace hAA := hI.low' hAA hA0 (hO.ge (trivial))
 replace hF : Fr w0 w := hF.tr hI.ch (hO.ge (trivial))
 replace hO : IniOK [ob (.pointer (some ⟨b1_0, 0, none⟩)) (.box w0.heap.size 62 E_impl_RuleSet p0)] A w := hI.left hdn [(0, ob (.pointer (some ⟨b1_0, 0, none⟩)) (.box w0.heap.size 62 E_impl_RuleSet p0))] ⟨rfl, rfl, e_b1_0, rfl, rfl, trivial⟩
 replace hA := hI.avok
 clear hI
 refine HT.seq ?_
 refine HT.seq ?_
 obtain ⟨x2, q3, hr⟩ := cl_some hr
 refine HT.text (l := ⟨_, true, .rep E_impl_RuleSet A p0⟩ :: ⟨_, true, .raw (.bool x2)⟩ :: ⟨_, true, .raw (.bool (!x2))⟩ :: []) (tl := []) (by kernel_rfl) (by kernel_rfl) (by kernel_rfl) ?_ ?_
 ·exact
   Obls.p (fun R' w' hw hs hd => (of_load_box ((hO.fr hw).ok 0 _ rfl).1 ((hs 1 rfl).trans h1) (Fld.id _) rfl Try.isAgg62 Try.sizeOf62)) <|
   Obls.p (fun R' w' hw hs hd => by have a0 : Rep E_impl_RuleSet A w' (R' 5) p0 := hd.g 0 rfl; exact of_call Try.call35 (M_impl_IsValidRules_ok (q3 rfl) (hA.fr hw.size) a0)) <|
   Obls.p (fun R' w' hw hs hd => by have a0 : R' 6 = .bool x2 := hd.g 0 rfl; exact of_not a0) <|
   Obls.nil
 intro R w hw hs hF'
 replace h1 := (hs 1 rfl).trans h1
 have h7 : R 7 = .bool (!x2) := hF' 2 _ _ rfl rfl rfl
 replace hO := hO.fr hw
 replace hA := hA.fr hw.size
 replace hF := hF.trans hw
 clear hs hF' hw
 refine seqR_nil ?_
 refine HT.cond (!x2) h7 (fun c4 => ?_) (fun c4 => ?_)
 ·have hr := cnd_t c4 hr
  refine HT.seq ?_
  refine HT.text (l := ⟨_, true, .raw (.slice none 0 0)⟩ :: []) (tl := []) (by kernel_rfl) (by kernel_rfl) (by kernel_rfl) ?_ ?_
  ·exact
    Obls.p (fun R' w' hw hs hd => of_assign rfl) <|
    Obls.nil
  intro R w hw hs hF'
  obtain ⟨u5, n_u5⟩ : ∃ u, u = Value.slice none 0 0 := ⟨_, rfl⟩
  have h2 : R 2 = u5 := (hF' 0 _ _ rfl rfl rfl).trans n_u5.symm
  replace hO := hO.fr hw
  replace hO : IniOK [] A w := hO.sub [] trivial
  replace hA := hA.fr hw.size
  replace hF := hF.trans hw
  clear hs hF' hw
  refine seqR_nil ?_
  replace hO := hO.nilcons (u := u5) n_u5 w0.heap.size 85 E_impl_Test
  refine HT.ret ?_
  obtain rfl := Option.some.inj hr
  exact ⟨.inr rfl, [R 2], ⟨rfl, trivial⟩, (own_post (hO.ok 0 _ rfl) hAA h2), hF⟩
 ·have hr := cnd_f c4 hr
  refine HT.skip ?_
  refine HT.seq ?_
  obtain ⟨x6, q7, hr⟩ := cl_some hr
  refine HT.textR [ob (.pointer (some ⟨b1_0, 0, none⟩)) (.box w0.heap.size 62 E_impl_RuleSet p0)] (⟨_, true, [], none, true, fun A => .rep E_impl_RuleSet A p0⟩ :: ⟨_, true, [], some (.vec w0.heap.size 85 E_impl_Test x6), true, fun A => .any⟩ :: ⟨_, true, [2], some (.vec w0.heap.size 85 E_impl_Test x6), true, fun A => .any⟩ :: []) (by kernel_rfl) (by kernel_rfl) (Wf.mk' (by kernel_rfl) (UAll.cons ust_rep (UAll.cons ust_any (UAll.cons ust_any (UAll.nil)))) (by kernel_rfl) (by kernel_rfl)) hO hA ?_ ?_
  ·exact
    OblsR.p (fun A' R' w' ho hd => (of_load_box (ho.rd 0 _ rfl rfl) ((ho.old 1 rfl).trans h1) (Fld.id _) rfl Try.isAgg62 Try.sizeOf62)) <|
    OblsR.cons (OblR.made _ rfl rfl rfl rfl fun A' R' w' ho hd => by have a0 : Rep E_impl_RuleSet A' w' (R' 8) p0 := hd.g 0 rfl; exact made_call Try.call92 (M_impl_allTests_ok (q7 rfl) ho.av a0) (Nat.le_trans hF.size ho.ch.size)) <|
    OblsR.cons (OblR.took 2 _ _ rfl rfl rfl rfl rfl fun A' R' w' ho hd u hok hav hin hop hds => by exact took_assign (hop _ _ rfl rfl rfl rfl).symm hok hav) <|
    OblsR.nil
  intro done ρ σ A R w hdn hI
  have z8 := hI.inivR 0 rfl
  obtain ⟨u9, e_u9⟩ : ∃ u, ρ 3 = u := ⟨_, rfl⟩
  have h3 : R 3 = u9 := (hI.opvR hdn 3 2 rfl rfl rfl rfl rfl).symm.trans e_u9
  replace hAA := hI.low' hAA hA0 (hO.ge (⟨rfl, trivial⟩))
  replace hF : Fr w0 w := hF.tr hI.ch (hO.ge (⟨rfl, trivial⟩))
  replace hO : IniOK [ob u9 (.vec w0.heap.size 85 E_impl_Test x6)] A w := hI.left hdn [(3, ob u9 (.vec w0.heap.size 85 E_impl_Test x6))] ⟨rfl, rfl, e_u9, rfl, rfl, trivial⟩
  replace hA := hI.avok
  clear hI
  refine HT.seq ?_
  refine HT.seq ?_
  refine HT.text (l := ⟨_, true, .raw u9⟩ :: ⟨_, true, .raw (.int .i64 (x6.length : Int))⟩ :: ⟨_, true, .raw (.int .i64 (0 : Int))⟩ :: []) (tl := []) (by kernel_rfl) (by kernel_rfl) (by kernel_rfl) ?_ ?_
  ·exact
    Obls.p (fun R' w' hw hs hd => of_move ((hs 3 rfl).trans h3)) <|
    Obls.p (fun R' w' hw hs hd => by have a0 : R' 10 = u9 := hd.g 0 rfl; exact of_len_vec (hO.ok 0 _ rfl).1 a0 Try.underlying28) <|
    Obls.p (fun R' w' hw hs hd => of_move rfl) <|
    Obls.nil
  intro R w hw hs hF'
  replace h3 := (hs 3 rfl).trans h3
  have h11 : R 11 = .int .i64 (x6.length : Int) := hF' 1 _ _ rfl rfl rfl
  have h12 : R 12 = .int .i64 (0 : Int) := hF' 2 _ _ rfl rfl rfl
  replace hO := hO.fr hw
  replace hA := hA.fr hw.size
  replace hF := hF.trans hw
  clear hs hF' hw
  refine seqR_nil ?_
  obtain ⟨rl10, q11, hr⟩ := cl_some hr
  replace q11 := q11 rfl
  refine HT.cut0 (fun R w => ∃ A : Av, ∃ (s12 : (List T_impl_Test)), rl10 = s12 ∧ AvOK A w ∧ Fr w0 w ∧ (∀ b o, A0 b o → A b o) ∧ IniOK [ob u9 (.vec w0.heap.size 85 E_impl_Test s12)] A w ∧ R 3 = u9) ?_ ?_
  ·refine HT.block ?_
   refine HT.loop (fun k R w => ∃ A : Av, ∃ (y13 : Int) (y14 : List T_impl_Test), M_impl_DiagramVariables_L0 fu x6 k y13 y14 = some rl10 ∧ AvOK A w ∧ Fr w0 w ∧ (∀ b o, A0 b o → A b o) ∧ IniOK [ob u9 (.vec w0.heap.size 85 E_impl_Test y14)] A w ∧ R 3 = u9 ∧ R 11 = .int .i64 (x6.length : Int) ∧ R 12 = .int .i64 y13) fu ⟨_, _, _, q11, hA, hF, hAA, hO, h3, h11, h12⟩ ?_
   have hr0 := hr; clear hr q11
   rintro k R w ⟨A, y13, y14, hr, hA, hF, hAA, hO, h3, h11, h12⟩
   rcases k with _ | k
   ·cases (show none = some _ from hr)
   rw [M_impl_DiagramVariables_L0] at hr
   refine HT.seq ?_
   refine HT.text (l := ⟨_, true, .raw (.bool (decide (y13 < (x6.length : Int))))⟩ :: []) (tl := []) (by kernel_rfl) (by kernel_rfl) (by kernel_rfl) ?_ ?_
   ·exact
     Obls.p (fun R' w' hw hs hd => of_lss ((hs 12 rfl).trans h12) ((hs 11 rfl).trans h11)) <|
     Obls.nil
   intro R w hw hs hF'
   replace h3 := (hs 3 rfl).trans h3
   replace h11 := (hs 11 rfl).trans h11
   replace h12 := (hs 12 rfl).trans h12
   have h13 : R 13 = .bool (decide (y13 < (x6.length : Int))) := hF' 0 _ _ rfl rfl rfl
   replace hO := hO.fr hw
   replace hA := hA.fr hw.size
   replace hF := hF.trans hw
   clear hs hF' hw
   refine seqR_nil ?_
   refine HT.seq ?_
   refine HT.cond (decide (y13 < (x6.length : Int))) h13 (fun c15 => ?_) (fun c15 => ?_)
   ·have hr := cnd_t c15 hr
    refine HT.skip ?_
    refine HT.seq ?_
    refine HT.block ?_
    refine HT.seq ?_
    refine HT.text (l := ⟨_, true, .raw (.int .i64 y13)⟩ :: ⟨_, true, .raw (.int .i64 y13)⟩ :: []) (tl := []) (by kernel_rfl) (by kernel_rfl) (by kernel_rfl) ?_ ?_
    ·exact
      Obls.p (fun R' w' hw hs hd => of_move ((hs 12 rfl).trans h12)) <|
      Obls.p (fun R' w' hw hs hd => by have a0 : R' 14 = .int .i64 y13 := hd.g 0 rfl; exact of_assign a0) <|
      Obls.nil
    intro R w hw hs hF'
    replace h3 := (hs 3 rfl).trans h3
    replace h11 := (hs 11 rfl).trans h11
    replace h12 := (hs 12 rfl).trans h12
    have h4 : R 4 = .int .i64 y13 := hF' 1 _ _ rfl rfl rfl
    replace hO := hO.fr hw
    replace hA := hA.fr hw.size
    replace hF := hF.trans hw
    clear hs hF' hw
    refine seqR_nil ?_
    obtain ⟨e16, hr⟩ := ck_some hr
    refine HT.textR [ob u9 (.vec w0.heap.size 85 E_impl_Test y14)] (⟨_, true, [], none, true, fun A => .raw u9⟩ :: ⟨_, true, [], none, true, fun A => .raw (.int .i64 y13)⟩ :: ⟨_, true, [], none, true, fun A => .raw (vptr u9 (y13.toNat * 3))⟩ :: ⟨_, true, [], none, true, fun A => .raw (vptr u9 (y13.toNat * 3 + 2))⟩ :: ⟨_, true, [0], some (.vec w0.heap.size 85 E_impl_Test (y14.set y13.toNat ((gtD y14 y13).1, (gtD y14 y13).2.1, false))), false, fun A => .any⟩ :: []) (by kernel_rfl) (by kernel_rfl) (Wf.mk' (by kernel_rfl) (UAll.cons ust_raw (UAll.cons ust_raw (UAll.cons ust_raw (UAll.cons ust_raw (UAll.cons ust_any (UAll.nil)))))) (by kernel_rfl) (by kernel_rfl)) hO hA ?_ ?_
    ·exact
      OblsR.p (fun A' R' w' ho hd => of_move ((ho.old 3 rfl).trans h3)) <|
      OblsR.p (fun A' R' w' ho hd => of_move ((ho.old 4 rfl).trans h4)) <|
      OblsR.p (fun A' R' w' ho hd => by have a0 : R' 15 = u9 := hd.g 0 rfl; have a1 : R' 16 = .int .i64 y13 := hd.g 1 rfl; exact of_indexAddr_vec (hO.ok 0 _ rfl).1 a0 a1 Try.underlying28 Try.sizeOf85 e16 rfl) <|
      OblsR.p (fun A' R' w' ho hd => by have a0 : R' 17 = (vptr u9 (y13.toNat * 3)) := hd.g 0 rfl; exact of_fieldAddr_vec (ho.rd 0 _ rfl rfl) (inR_ne e16) a0 ff_85_2 Try.sizeOf4 (by decide) rfl) <|
      OblsR.cons (OblR.took 0 _ _ rfl rfl rfl rfl rfl fun A' R' w' ho hd u hok hav hin hop hds => by have a0 : R' 18 = (vptr u9 (y13.toNat * 3 + 2)) := hd.g 0 rfl; obtain rfl := hin _ rfl; exact took_vstore (rep_bool.eq rfl) hok hav a0 e16 rfl fs_impl_Test_2 Try.sizeOf4 rfl) <|
      OblsR.nil
    intro done ρ σ A R w hdn hI
    replace h3 : R 3 = u9 := (hI.reg rfl).trans h3
    replace h11 : R 11 = .int .i64 (x6.length : Int) := (hI.reg rfl).trans h11
    replace h12 : R 12 = .int .i64 y13 := (hI.reg rfl).trans h12
    have z17 := hI.inivR 0 rfl
    have z18 := (hI.opnR hdn 5 4 rfl rfl rfl rfl rfl).trans z17
    replace hAA := hI.low' hAA hA0 (hO.ge (⟨rfl, trivial⟩))
    replace hF : Fr w0 w := hF.tr hI.ch (hO.ge (⟨rfl, trivial⟩))
    replace hO : IniOK [ob u9 (.vec w0.heap.size 85 E_impl_Test (y14.set y13.toNat ((gtD y14 y13).1, (gtD y14 y13).2.1, false)))] A w := hI.left hdn [(5, ob u9 (.vec w0.heap.size 85 E_impl_Test (y14.set y13.toNat ((gtD y14 y13).1, (gtD y14 y13).2.1, false))))] ⟨rfl, rfl, z18, rfl, rfl, trivial⟩
    replace hA := hI.avok
    clear hI
    obtain ⟨e19, hr⟩ := ck_some hr
    refine HT.text (l := ⟨_, true, .raw (.int .i64 (y13 + (1 : Int)))⟩ :: ⟨_, true, .raw (.int .i64 (y13 + (1 : Int)))⟩ :: []) (tl := []) (by kernel_rfl) (by kernel_rfl) (by kernel_rfl) ?_ ?_
    ·exact
      Obls.p (fun R' w' hw hs hd => of_add ((hs 12 rfl).trans h12) rfl e19) <|
      Obls.p (fun R' w' hw hs hd => by have a0 : R' 19 = .int .i64 (y13 + (1 : Int)) := hd.g 0 rfl; exact of_move a0) <|
      Obls.nil
    intro R w hw hs hF'
    replace h3 := (hs 3 rfl).trans h3
    replace h11 := (hs 11 rfl).trans h11
    have h12 : R 12 = .int .i64 (y13 + (1 : Int)) := hF' 1 _ _ rfl rfl rfl
    replace hO := hO.fr hw
    replace hA := hA.fr hw.size
    replace hF := hF.trans hw
    clear hs hF' hw
    refine seqR_nil ?_
    exact Exists.intro k (And.intro (Nat.lt_succ_self k) ⟨_, _, _, hr, hA, hF, hAA, hO, h3, h11, h12⟩)
   ·have hr := cnd_f c15 hr
    refine HT.exit ?_
    obtain rfl := Option.some.inj hr
    exact Exists.intro _ ⟨_, rfl, hA, hF, hAA, hO, h3⟩
  rintro R w ⟨A, s12, es, hA, hF, hAA, hO, h3⟩
  obtain rfl := es.symm
  refine HT.seq ?_
  obtain ⟨x20, q21, hr⟩ := cl_some hr
  refine HT.textR [ob u9 (.vec w0.heap.size 85 E_impl_Test s12)] (⟨_, true, [], none, true, fun A => .raw u9⟩ :: ⟨_, true, [0], some (.vec w0.heap.size 85 E_impl_Test x20), false, fun A => .any⟩ :: []) (by kernel_rfl) (by kernel_rfl) (Wf.mk' (by kernel_rfl) (UAll.cons ust_raw (UAll.cons ust_any (UAll.nil))) (by kernel_rfl) (by kernel_rfl)) hO hA ?_ ?_
  ·exact
    OblsR.p (fun A' R' w' ho hd => of_move ((ho.old 3 rfl).trans h3)) <|
    OblsR.cons (OblR.took 0 _ _ rfl rfl rfl rfl rfl fun A' R' w' ho hd u hok hav hin hop hds => by have a0 : R' 20 = u9 := hd.g 0 rfl; have hu0 : evalR R' (.tmp 20) = u := a0.trans (hin _ rfl).symm; exact took_call Try.call93 hav (fun _ _ _ _ _ h => h) (by simp only [List.map, hu0]; exact Calls.mono (M_sortFT_ok (q21 rfl) (ho.av.sub _) (fun b o h => h.2) (Vec.flat hok (fun _ _ _ _ _ h => h)) (fnk2_of [] rfl Try.call94 (fun x y r hr' w'' a b hF' hA' ha hb => M_impl_DiagramVariables_1_ok hr' hA' ha hb))) (fun _ _ ⟨v, h1, h2, h3, h4⟩ => ⟨v, h1, trivial, h3, h4⟩))) <|
    OblsR.nil
  intro done ρ σ A R w hdn hI
  replace h3 : R 3 = u9 := (hI.reg rfl).trans h3
  have z22 := hI.inivR 0 rfl
  have z23 := (hI.opnR hdn 2 1 rfl rfl rfl rfl rfl).trans z22
  replace hAA := hI.low' hAA hA0 (hO.ge (⟨rfl, trivial⟩))
  replace hF : Fr w0 w := hF.tr hI.ch (hO.ge (⟨rfl, trivial⟩))
  replace hO : IniOK [ob u9 (.vec w0.heap.size 85 E_impl_Test x20)] A w := hI.left hdn [(2, ob u9 (.vec w0.heap.size 85 E_impl_Test x20))] ⟨rfl, rfl, z23, rfl, rfl, trivial⟩
  replace hA := hI.avok
  clear hI
  refine HT.seq ?_
  obtain ⟨x24, q25, hr⟩ := cl_some hr
  refine HT.textR [ob u9 (.vec w0.heap.size 85 E_impl_Test x20)] (⟨_, true, [], none, true, fun A => .raw u9⟩ :: ⟨_, true, [0], some (.vec w0.heap.size 85 E_impl_Test x24), true, fun A => .any⟩ :: ⟨_, true, [2], some (.vec w0.heap.size 85 E_impl_Test x24), true, fun A => .any⟩ :: []) (by kernel_rfl) (by kernel_rfl) (Wf.mk' (by kernel_rfl) (UAll.cons ust_raw (UAll.cons ust_any (UAll.cons ust_any (UAll.nil)))) (by kernel_rfl) (by kernel_rfl)) hO hA ?_ ?_
  ·exact
    OblsR.p (fun A' R' w' ho hd => of_move ((ho.old 3 rfl).trans h3)) <|
    OblsR.cons (OblR.took 0 _ _ rfl rfl rfl rfl rfl fun A' R' w' ho hd u hok hav hin hop hds => by have a0 : R' 22 = u9 := hd.g 0 rfl; have hu0 : evalR R' (.tmp 22) = u := a0.trans (hin _ rfl).symm; exact took_callm Try.call97 hav (by simp only [List.map, hu0]; exact M_slices_Compact_impl_Test_impl_Test_ok (q25 rfl) (ho.av.sub _) (fun b o h => h.2) (Vec.flat hok (fun _ _ _ _ _ h => h)))) <|
    OblsR.cons (OblR.took 2 _ _ rfl rfl rfl rfl rfl fun A' R' w' ho hd u hok hav hin hop hds => by exact took_assign (hop _ _ rfl rfl rfl rfl).symm hok hav) <|
    OblsR.nil
  intro done ρ σ A R w hdn hI
  obtain ⟨u26, e_u26⟩ : ∃ u, ρ 3 = u := ⟨_, rfl⟩
  have h2 : R 2 = u26 := (hI.opvR hdn 3 2 rfl rfl rfl rfl rfl).symm.trans e_u26
  replace hAA := hI.low' hAA hA0 (hO.ge (⟨rfl, trivial⟩))
  replace hF : Fr w0 w := hF.tr hI.ch (hO.ge (⟨rfl, trivial⟩))
  replace hO : IniOK [ob u26 (.vec w0.heap.size 85 E_impl_Test x24)] A w := hI.left hdn [(3, ob u26 (.vec w0.heap.size 85 E_impl_Test x24))] ⟨rfl, rfl, e_u26, rfl, rfl, trivial⟩
  replace hA := hI.avok
  clear hI
  refine HT.ret ?_
  obtain rfl := Option.some.inj hr
  exact ⟨.inr rfl, [R 2], ⟨rfl, trivial⟩, (own_post (hO.ok 0 _ rfl) hAA h2), hF⟩
theorem M_impl_DiagramVariables_okR {fu : Nat} {A0 : Av} {p0 : T_impl_RuleSet} {r : List T_impl_Test} (hr : M_impl_DiagramVariables fu p0 = some r) {w : World} {v0 : Value} (hA : AvOK A0 w) (h0 : Rep E_impl_RuleSet A0 w v0 p0) :
  Calls Try.prog 46 #[v0] w fun e w' => ∃ v, e = .returned v ∧ (Rep (eSl E_impl_Test) A0 w' v r ∧ Fr w w') := by
 refine Calls.mono (M_impl_DiagramVariables_ok hr hA h0) ?_
 rintro e w' ⟨v, he, hv, hf⟩
 exact ⟨v, he, vec_rep hv (fun b o h => .inl h) hA, hf⟩
def M_laws_eqTest (fu : Nat) (p0 : T_impl_Test) (p1 : T_impl_Test) : Option Bool :=
 bif (p0.1 != p1.1) then (
  some false
 ) else (
  bif (p0.2.1 != p1.2.1) then (
   some false
  ) else (
   bif (p0.2.2 != p1.2.2) then (
    some false
   ) else (
    some true
   )
  )
 )
theorem M_laws_eqTest_ok {fu : Nat} {A0 : Av} {p0 : T_impl_Test} {p1 : T_impl_Test} {r : Bool} (hr : M_laws_eqTest fu p0 p1 = some r) {w : World} {v0 : Value} {v1 : Value} (hA : AvOK A0 w) (h0 : Rep E_impl_Test A0 w v0 p0) (h1 : Rep E_impl_Test A0 w v1 p1) :
  Calls Try.prog 98 #[v0, v1] w fun e w' => ∃ v, e = .returned v ∧ (v = .bool r ∧ Fr w w') := by
 unfold M_laws_eqTest at hr
 obtain ⟨w0, hw0⟩ : ∃ w0, w0 = w := ⟨_, rfl⟩
 have hF : Fr w0 w := hw0 ▸ Fr.refl _
 have hA0 : ∀ b o, A0 b o → b < w0.heap.size := fun b o h => hw0 ▸ hA b o h
 have hA00 : AvOK A0 w0 := hA0
 rw [show Fr w = Fr w0 from hw0 ▸ rfl]
 clear hw0
 obtain ⟨A, hAe⟩ : ∃ A, A = A0 := ⟨_, rfl⟩
 have hAA : ∀ b o, A0 b o → A b o := fun b o h => hAe ▸ h
 replace hA : AvOK A w := hAe ▸ hA
 have hO : IniOK [] A w := IniOK.nil
 refine calls_of_HT2 [.tmp 4] Try.func98 Try.ntmps98 (by decide) rfl rfl (Nat.le_of_ble_eq_true rfl) ?_
 intro R hR
 have f_v0 : Rep E_impl_Test A w v0 p0 := hAe ▸ h0
 replace h0 : R 0 = v0 := hR 0 _ rfl
 have f_v1 : Rep E_impl_Test A w v1 p1 := hAe ▸ h1
 replace h1 : R 1 = v1 := hR 1 _ rfl
 clear hR hAe
 refine HT.seq ?_
 refine HT.textR [] (⟨_, true, [], some (.box w0.heap.size 85 E_impl_Test p0), true, fun A => .any⟩ :: ⟨_, true, [], some (.box w0.heap.size 85 E_impl_Test p1), true, fun A => .any⟩ :: ⟨_, true, [], none, true, fun A => .raw (.bool false)⟩ :: []) (by kernel_rfl) (by kernel_rfl) (Wf.mk' (by kernel_rfl) (UAll.cons ust_any (UAll.cons ust_any (UAll.cons ust_raw (UAll.nil)))) (by kernel_rfl) (by kernel_rfl)) hO hA ?_ ?_
 ·exact
   OblsR.cons (OblR.made _ rfl rfl rfl rfl fun A' R' w' ho hd => by have a0 : R' 0 = v0 := (ho.old 0 rfl).trans h0; have ra0 := (f_v0.stp ho.stp).eq a0; exact made_box ra0 (Nat.le_trans hF.size ho.ch.size)) <|
   OblsR.cons (OblR.made _ rfl rfl rfl rfl fun A' R' w' ho hd => by have a0 : R' 1 = v1 := (ho.old 1 rfl).trans h1; have ra0 := (f_v1.stp ho.stp).eq a0; exact made_box ra0 (Nat.le_trans hF.size ho.ch.size)) <|
   OblsR.p (fun A' R' w' ho hd => of_assign rfl) <|
   OblsR.nil
 intro done ρ σ A R w hdn hI
 obtain ⟨b2_0, e_b2_0⟩ := hI.boxv hdn 0 rfl rfl
 have h2 : R 2 = (.pointer (some ⟨b2_0, 0, none⟩)) := (hI.opvR hdn 0 0 rfl rfl rfl rfl rfl).symm.trans e_b2_0
 obtain ⟨b3_1, e_b3_1⟩ := hI.boxv hdn 1 rfl rfl
 have h3 : R 3 = (.pointer (some ⟨b3_1, 0, none⟩)) := (hI.opvR hdn 1 1 rfl rfl rfl rfl rfl).symm.trans e_b3_1
 replace hAA := hI.low' hAA hA0 (hO.ge (trivial))
 replace hF : Fr w0 w := hF.tr hI.ch (hO.ge (trivial))
 replace hO : IniOK [ob (.pointer (some ⟨b2_0, 0, none⟩)) (.box w0.heap.size 85 E_impl_Test p0), ob (.pointer (some ⟨b3_1, 0, none⟩)) (.box w0.heap.size 85 E_impl_Test p1)] A w := hI.left hdn [(0, ob (.pointer (some ⟨b2_0, 0, none⟩)) (.box w0.heap.size 85 E_impl_Test p0)), (1, ob (.pointer (some ⟨b3_1, 0, none⟩)) (.box w0.heap.size 85 E_impl_Test p1))] ⟨rfl, rfl, e_b2_0, rfl, rfl, ⟨rfl, rfl, e_b3_1, rfl, rfl, trivial⟩⟩
 replace hA := hI.avok
 clear hI
 refine HT.seq ?_
 refine HT.seq ?_
 refine HT.text (l := ⟨_, true, .raw (.pointer (some ⟨b2_0, 0, none⟩))⟩ :: ⟨_, true, .raw (.int .i64 p0.1)⟩ :: ⟨_, true, .raw (.pointer (some ⟨b3_1, 0, none⟩))⟩ :: ⟨_, true, .raw (.int .i64 p1.1)⟩ :: ⟨_, true, .raw (.bool (p0.1 != p1.1))⟩ :: []) (tl := []) (by kernel_rfl) (by kernel_rfl) (by kernel_rfl) ?_ ?_
 ·exact
   Obls.p (fun R' w' hw hs hd => of_fieldAddr_raw ((hs 2 rfl).trans h2) ff_85_0 Try.sizeOf3 (by decide) rfl) <|
   Obls.p (fun R' w' hw hs hd => by have a0 : R' 5 = (.pointer (some ⟨b2_0, 0, none⟩)) := hd.g 0 rfl; exact OpF.int (of_load_box ((hO.fr hw).ok 0 _ rfl).1 a0 fl_impl_Test_0 rfl Try.isAgg3 Try.sizeOf3)) <|
   Obls.p (fun R' w' hw hs hd => of_fieldAddr_raw ((hs 3 rfl).trans h3) ff_85_0 Try.sizeOf3 (by decide) rfl) <|
   Obls.p (fun R' w' hw hs hd => by have a0 : R' 7 = (.pointer (some ⟨b3_1, 0, none⟩)) := hd.g 0 rfl; exact OpF.int (of_load_box ((hO.fr hw).ok 1 _ rfl).1 a0 fl_impl_Test_0 rfl Try.isAgg3 Try.sizeOf3)) <|
   Obls.p (fun R' w' hw hs hd => by have a0 : R' 6 = .int .i64 p0.1 := hd.g 0 rfl; have a1 : R' 8 = .int .i64 p1.1 := hd.g 1 rfl; exact of_neq a0 a1) <|
   Obls.nil
 intro R w hw hs hF'
 replace h2 := (hs 2 rfl).trans h2
 replace h3 := (hs 3 rfl).trans h3
 have h9 : R 9 = .bool (p0.1 != p1.1) := hF' 4 _ _ rfl rfl rfl
 replace hO := hO.fr hw
 replace hA := hA.fr hw.size
 replace hF := hF.trans hw
 clear hs hF' hw
 refine seqR_nil ?_
 refine HT.cond (p0.1 != p1.1) h9 (fun c3 => ?_) (fun c3 => ?_)
 ·have hr := cnd_t c3 hr
  refine HT.seq ?_
  refine HT.text (l := ⟨_, true, .raw (.bool false)⟩ :: []) (tl := []) (by kernel_rfl) (by kernel_rfl) (by kernel_rfl) ?_ ?_
  ·exact
    Obls.p (fun R' w' hw hs hd => of_assign rfl) <|
    Obls.nil
  intro R w hw hs hF'
  have h4 : R 4 = .bool false := hF' 0 _ _ rfl rfl rfl
  replace hO := hO.fr hw
  replace hO : IniOK [] A w := hO.sub [] trivial
  replace hA := hA.fr hw.size
  replace hF := hF.trans hw
  clear hs hF' hw
  refine seqR_nil ?_
  refine HT.ret ?_
  obtain rfl := Option.some.inj hr
  exact ⟨.inr rfl, [R 4], ⟨rfl, trivial⟩, h4, hF⟩
 ·have hr := cnd_f c3 hr
  refine HT.skip ?_
  refine HT.seq ?_
  refine HT.seq ?_
  refine HT.text (l := ⟨_, true, .raw (.pointer (some ⟨b2_0, 1, none⟩))⟩ :: ⟨_, true, .raw (.int .i64 p0.2.1)⟩ :: ⟨_, true, .raw (.pointer (some ⟨b3_1, 1, none⟩))⟩ :: ⟨_, true, .raw (.int .i64 p1.2.1)⟩ :: ⟨_, true, .raw (.bool (p0.2.1 != p1.2.1))⟩ :: []) (tl := []) (by kernel_rfl) (by kernel_rfl) (by kernel_rfl) ?_ ?_
  ·exact
    Obls.p (fun R' w' hw hs hd => of_fieldAddr_raw ((hs 2 rfl).trans h2) ff_85_1 Try.sizeOf3 (by decide) rfl) <|
    Obls.p (fun R' w' hw hs hd => by have a0 : R' 10 = (.pointer (some ⟨b2_0, 1, none⟩)) := hd.g 0 rfl; exact OpF.int (of_load_box ((hO.fr hw).ok 0 _ rfl).1 a0 fl_impl_Test_1 rfl Try.isAgg3 Try.sizeOf3)) <|
    Obls.p (fun R' w' hw hs hd => of_fieldAddr_raw ((hs 3 rfl).trans h3) ff_85_1 Try.sizeOf3 (by decide) rfl) <|
    Obls.p (fun R' w' hw hs hd => by have a0 : R' 12 = (.pointer (some ⟨b3_1, 1, none⟩)) := hd.g 0 rfl; exact OpF.int (of_load_box ((hO.fr hw).ok 1 _ rfl).1 a0 fl_impl_Test_1 rfl Try.isAgg3 Try.sizeOf3)) <|
    Obls.p (fun R' w' hw hs hd => by have a0 : R' 11 = .int .i64 p0.2.1 := hd.g 0 rfl; have a1 : R' 13 = .int .i64 p1.2.1 := hd.g 1 rfl; exact of_neq a0 a1) <|
    Obls.nil
  intro R w hw hs hF'
  replace h2 := (hs 2 rfl).trans h2
  replace h3 := (hs 3 rfl).trans h3
  have h14 : R 14 = .bool (p0.2.1 != p1.2.1) := hF' 4 _ _ rfl rfl rfl
  replace hO := hO.fr hw
  replace hA := hA.fr hw.size
  replace hF := hF.trans hw
  clear hs hF' hw
  refine seqR_nil ?_
  refine HT.cond (p0.2.1 != p1.2.1) h14 (fun c4 => ?_) (fun c4 => ?_)
  ·have hr := cnd_t c4 hr
   refine HT.seq ?_
   refine HT.text (l := ⟨_, true, .raw (.bool false)⟩ :: []) (tl := []) (by kernel_rfl) (by kernel_rfl) (by kernel_rfl) ?_ ?_
   ·exact
     Obls.p (fun R' w' hw hs hd => of_assign rfl) <|
     Obls.nil
   intro R w hw hs hF'
   have h4 : R 4 = .bool false := hF' 0 _ _ rfl rfl rfl
   replace hO := hO.fr hw
   replace hO : IniOK [] A w := hO.sub [] trivial
   replace hA := hA.fr hw.size
   replace hF := hF.trans hw
   clear hs hF' hw
   refine seqR_nil ?_
   refine HT.ret ?_
   obtain rfl := Option.some.inj hr
   exact ⟨.inr rfl, [R 4], ⟨rfl, trivial⟩, h4, hF⟩
  ·have hr := cnd_f c4 hr
   refine HT.skip ?_
   refine HT.seq ?_
   refine HT.seq ?_
   refine HT.text (l := ⟨_, true, .raw (.pointer (some ⟨b2_0, 2, none⟩))⟩ :: ⟨_, true, .raw (.bool p0.2.2)⟩ :: ⟨_, true, .raw (.pointer (some ⟨b3_1, 2, none⟩))⟩ :: ⟨_, true, .raw (.bool p1.2.2)⟩ :: ⟨_, true, .raw (.bool (p0.2.2 != p1.2.2))⟩ :: []) (tl := []) (by kernel_rfl) (by kernel_rfl) (by kernel_rfl) ?_ ?_
   ·exact
     Obls.p (fun R' w' hw hs hd => of_fieldAddr_raw ((hs 2 rfl).trans h2) ff_85_2 Try.sizeOf4 (by decide) rfl) <|
     Obls.p (fun R' w' hw hs hd => by have a0 : R' 15 = (.pointer (some ⟨b2_0, 2, none⟩)) := hd.g 0 rfl; exact OpF.bool (of_load_box ((hO.fr hw).ok 0 _ rfl).1 a0 fl_impl_Test_2 rfl Try.isAgg4 Try.sizeOf4)) <|
     Obls.p (fun R' w' hw hs hd => of_fieldAddr_raw ((hs 3 rfl).trans h3) ff_85_2 Try.sizeOf4 (by decide) rfl) <|
     Obls.p (fun R' w' hw hs hd => by have a0 : R' 17 = (.pointer (some ⟨b3_1, 2, none⟩)) := hd.g 0 rfl; exact OpF.bool (of_load_box ((hO.fr hw).ok 1 _ rfl).1 a0 fl_impl_Test_2 rfl Try.isAgg4 Try.sizeOf4)) <|
     Obls.p (fun R' w' hw hs hd => by have a0 : R' 16 = .bool p0.2.2 := hd.g 0 rfl; have a1 : R' 18 = .bool p1.2.2 := hd.g 1 rfl; exact of_bneq Try.underlying4 a0 a1) <|
     Obls.nil
   intro R w hw hs hF'
   have h19 : R 19 = .bool (p0.2.2 != p1.2.2) := hF' 4 _ _ rfl rfl rfl
   replace hO := hO.fr hw
   replace hO : IniOK [] A w := hO.sub [] trivial
   replace hA := hA.fr hw.size
   replace hF := hF.trans hw
   clear hs hF' hw
   refine seqR_nil ?_
   refine HT.cond (p0.2.2 != p1.2.2) h19 (fun c5 => ?_) (fun c5 => ?_)
   ·have hr := cnd_t c5 hr
    refine HT.seq ?_
    refine HT.text (l := ⟨_, true, .raw (.bool false)⟩ :: []) (tl := []) (by kernel_rfl) (by kernel_rfl) (by kernel_rfl) ?_ ?_
    ·exact
      Obls.p (fun R' w' hw hs hd => of_assign rfl) <|
      Obls.nil
    intro R w hw hs hF'
    have h4 : R 4 = .bool false := hF' 0 _ _ rfl rfl rfl
    replace hO := hO.fr hw
    replace hA := hA.fr hw.size
    replace hF := hF.trans hw
    clear hs hF' hw
    refine seqR_nil ?_
    refine HT.ret ?_
    obtain rfl := Option.some.inj hr
    exact ⟨.inr rfl, [R 4], ⟨rfl, trivial⟩, h4, hF⟩
   ·have hr := cnd_f c5 hr
    refine HT.skip ?_
    refine HT.seq ?_
    refine HT.text (l := ⟨_, true, .raw (.bool true)⟩ :: []) (tl := []) (by kernel_rfl) (by kernel_rfl) (by kernel_rfl) ?_ ?_
    ·exact
      Obls.p (fun R' w' hw hs hd => of_assign rfl) <|
      Obls.nil
    intro R w hw hs hF'
    have h4 : R 4 = .bool true := hF' 0 _ _ rfl rfl rfl
    replace hO := hO.fr hw
    replace hA := hA.fr hw.size
    replace hF := hF.trans hw
    clear hs hF' hw
    refine seqR_nil ?_
    refine HT.ret ?_
    obtain rfl := Option.some.inj hr
    exact ⟨.inr rfl, [R 4], ⟨rfl, trivial⟩, h4, hF⟩
def M_laws_eqTestS_L0 (fu : Nat) (p0 : List T_impl_Test) (p1 : List T_impl_Test) : Nat → Int → Option (Ex Bool Unit)
 | 0, _ => none
 | k + 1, y5 =>
  bif (decide (y5 < (p0.length : Int))) then (
   ck (inR y5 p0.length) <|
   ck (inR y5 p1.length) <|
   cl true (M_laws_eqTest fu (gtD p0 y5) (gtD p1 y5)) fun x9 =>
   bif (!x9) then (
    some (Ex.ret false)
   ) else (
    ck (i64B (y5 + (1 : Int))) <|
    M_laws_eqTestS_L0 fu p0 p1 k (y5 + (1 : Int))
   )
  ) else (
   some (Ex.go ())
  )
def M_laws_eqTestS (fu : Nat) (p0 : List T_impl_Test) (p1 : List T_impl_Test) : Option Bool :=
 bif ((p0.length : Int) != (p1.length : Int)) then (
  some false
 ) else (
  cl true (M_laws_eqTestS_L0 fu p0 p1 fu (0 : Int)) fun rl2 =>
  exM rl2 (fun r => some r) fun s4 =>
  some true
 )
theorem M_laws_eqTestS_ok {fu : Nat} {A : Av} {p0 : List T_impl_Test} {p1 : List T_impl_Test} {r : Bool} (hr : M_laws_eqTestS fu p0 p1 = some r) {w : World} {v0 : Value} {v1 : Value} (hA : AvOK A w) (h0 : Rep (eSl E_impl_Test) A w v0 p0) (h1 : Rep (eSl E_impl_Test) A w v1 p1) :
  Calls Try.prog 47 #[v0, v1] w fun e w' => ∃ v, e = .returned v ∧ (v = .bool r ∧ Fr w w') := by
 unfold M_laws_eqTestS at hr
 obtain ⟨w0, hw0⟩ : ∃ w0, w0 = w := ⟨_, rfl⟩
 have hF : Fr w0 w := hw0 ▸ Fr.refl _
 rw [show Fr w = Fr w0 from hw0 ▸ rfl]
 clear hw0
 refine calls_of_HT2 [.tmp 4] Try.func47 Try.ntmps47 (by decide) rfl rfl (Nat.le_of_ble_eq_true rfl) ?_
 intro R hR
 have f_v0 := h0
 replace h0 : R 0 = v0 := hR 0 _ rfl
 have f_v1 := h1
 replace h1 : R 1 = v1 := hR 1 _ rfl
 clear hR
 refine HT.seq ?_
 refine HT.text (l := ⟨_, true, .raw (.bool false)⟩ :: []) (tl := []) (by kernel_rfl) (by kernel_rfl) (by kernel_rfl) ?_ ?_
 ·exact
   Obls.p (fun R' w' hw hs hd => of_assign rfl) <|
   Obls.nil
 intro R w hw hs hF'
 replace h0 := (hs 0 rfl).trans h0
 replace h1 := (hs 1 rfl).trans h1
 replace f_v0 := f_v0.fr hw
 replace f_v1 := f_v1.fr hw
 replace hA := hA.fr hw.size
 replace hF := hF.trans hw
 clear hs hF' hw
 refine seqR_nil ?_
 refine HT.seq ?_
 refine HT.seq ?_
 refine HT.text (l := ⟨_, true, .raw v0⟩ :: ⟨_, true, .raw (.int .i64 (p0.length : Int))⟩ :: ⟨_, true, .raw v1⟩ :: ⟨_, true, .raw (.int .i64 (p1.length : Int))⟩ :: ⟨_, true, .raw (.bool ((p0.length : Int) != (p1.length : Int)))⟩ :: []) (tl := []) (by kernel_rfl) (by kernel_rfl) (by kernel_rfl) ?_ ?_
 ·exact
   Obls.p (fun R' w' hw hs hd => of_move ((hs 0 rfl).trans h0)) <|
   Obls.p (fun R' w' hw hs hd => by have a0 : R' 6 = v0 := hd.g 0 rfl; have ra0 := (f_v0.fr hw).eq a0; exact of_len_sl (aT := #[]) ra0 Try.underlying28) <|
   Obls.p (fun R' w' hw hs hd => of_move ((hs 1 rfl).trans h1)) <|
   Obls.p (fun R' w' hw hs hd => by have a0 : R' 8 = v1 := hd.g 0 rfl; have ra0 := (f_v1.fr hw).eq a0; exact of_len_sl (aT := #[]) ra0 Try.underlying28) <|
   Obls.p (fun R' w' hw hs hd => by have a0 : R' 7 = .int .i64 (p0.length : Int) := hd.g 0 rfl; have a1 : R' 9 = .int .i64 (p1.length : Int) := hd.g 1 rfl; exact of_neq a0 a1) <|
   Obls.nil
 intro R w hw hs hF'
 replace h0 := (hs 0 rfl).trans h0
 replace h1 := (hs 1 rfl).trans h1
 have h10 : R 10 = .bool ((p0.length : Int) != (p1.length : Int)) := hF' 4 _ _ rfl rfl rfl
 replace f_v0 := f_v0.fr hw
 replace f_v1 := f_v1.fr hw
 replace hA := hA.fr hw.size
 replace hF := hF.trans hw
 clear hs hF' hw
 refine seqR_nil ?_
 refine HT.cond ((p0.length : Int) != (p1.length : Int)) h10 (fun c1 => ?_) (fun c1 => ?_)
 ·have hr := cnd_t c1 hr
  refine HT.seq ?_
  refine HT.text (l := ⟨_, true, .raw (.bool false)⟩ :: []) (tl := []) (by kernel_rfl) (by kernel_rfl) (by kernel_rfl) ?_ ?_
  ·exact
    Obls.p (fun R' w' hw hs hd => of_assign rfl) <|
    Obls.nil
  intro R w hw hs hF'
  have h4 : R 4 = .bool false := hF' 0 _ _ rfl rfl rfl
  replace hA := hA.fr hw.size
  replace hF := hF.trans hw
  clear hs hF' hw
  refine seqR_nil ?_
  refine HT.ret ?_
  obtain rfl := Option.some.inj hr
  exact ⟨.inr rfl, [R 4], ⟨rfl, trivial⟩, h4, hF⟩
 ·have hr := cnd_f c1 hr
  refine HT.skip ?_
  refine HT.seq ?_
  refine HT.seq ?_
  refine HT.text (l := ⟨_, true, .raw (.int .i64 (0 : Int))⟩ :: []) (tl := []) (by kernel_rfl) (by kernel_rfl) (by kernel_rfl) ?_ ?_
  ·exact
    Obls.p (fun R' w' hw hs hd => of_assign rfl) <|
    Obls.nil
  intro R w hw hs hF'
  replace h0 := (hs 0 rfl).trans h0
  replace h1 := (hs 1 rfl).trans h1
  have h5 : R 5 = .int .i64 (0 : Int) := hF' 0 _ _ rfl rfl rfl
  replace f_v0 := f_v0.fr hw
  replace f_v1 := f_v1.fr hw
  replace hA := hA.fr hw.size
  replace hF := hF.trans hw
  clear hs hF' hw
  refine seqR_nil ?_
  obtain ⟨rl2, q3, hr⟩ := cl_some hr
  replace q3 := q3 rfl
  refine HT.cut0 (fun R w => ∃ (s4 : Unit), rl2 = Ex.go s4 ∧ AvOK A w ∧ Fr w0 w) ?_ ?_
  ·refine HT.block ?_
   refine HT.loop (fun k R w => ∃ (y5 : Int), M_laws_eqTestS_L0 fu p0 p1 k y5 = some rl2 ∧ AvOK A w ∧ Fr w0 w ∧ R 0 = v0 ∧ R 1 = v1 ∧ R 5 = .int .i64 y5 ∧ Rep (eSl E_impl_Test) A w v0 p0 ∧ Rep (eSl E_impl_Test) A w v1 p1) fu ⟨_, q3, hA, hF, h0, h1, h5, f_v0, f_v1⟩ ?_
   have hr0 := hr; clear hr q3
   rintro k R w ⟨y5, hr, hA, hF, h0, h1, h5, f_v0, f_v1⟩
   rcases k with _ | k
   ·cases (show none = some _ from hr)
   rw [M_laws_eqTestS_L0] at hr
   refine HT.seq ?_
   refine HT.seq ?_
   refine HT.text (l := ⟨_, true, .raw (.int .i64 y5)⟩ :: ⟨_, true, .raw v0⟩ :: ⟨_, true, .raw (.int .i64 (p0.length : Int))⟩ :: ⟨_, true, .raw (.bool (decide (y5 < (p0.length : Int))))⟩ :: []) (tl := []) (by kernel_rfl) (by kernel_rfl) (by kernel_rfl) ?_ ?_
   ·exact
     Obls.p (fun R' w' hw hs hd => of_move ((hs 5 rfl).trans h5)) <|
     Obls.p (fun R' w' hw hs hd => of_move ((hs 0 rfl).trans h0)) <|
     Obls.p (fun R' w' hw hs hd => by have a0 : R' 12 = v0 := hd.g 0 rfl; have ra0 := (f_v0.fr hw).eq a0; exact of_len_sl (aT := #[]) ra0 Try.underlying28) <|
     Obls.p (fun R' w' hw hs hd => by have a0 : R' 11 = .int .i64 y5 := hd.g 0 rfl; have a1 : R' 13 = .int .i64 (p0.length : Int) := hd.g 1 rfl; exact of_lss a0 a1) <|
     Obls.nil
   intro R w hw hs hF'
   replace h0 := (hs 0 rfl).trans h0
   replace h1 := (hs 1 rfl).trans h1
   replace h5 := (hs 5 rfl).trans h5
   have h14 : R 14 = .bool (decide (y5 < (p0.length : Int))) := hF' 3 _ _ rfl rfl rfl
   replace f_v0 := f_v0.fr hw
   replace f_v1 := f_v1.fr hw
   replace hA := hA.fr hw.size
   replace hF := hF.trans hw
   clear hs hF' hw
   refine seqR_nil ?_
   refine HT.cond (decide (y5 < (p0.length : Int))) h14 (fun c6 => ?_) (fun c6 => ?_)
   ·have hr := cnd_t c6 hr
    refine HT.skip ?_
    refine HT.seq ?_
    refine HT.block ?_
    refine HT.seq ?_
    obtain ⟨e7, hr⟩ := ck_some hr
    obtain ⟨e8, hr⟩ := ck_some hr
    obtain ⟨x9, q10, hr⟩ := cl_some hr
    refine HT.draw (by kernel_rfl) (l := ⟨_, true, .raw v0⟩ :: ⟨_, true, .raw (.int .i64 y5)⟩ :: ⟨_, true, .qtr E_impl_Test A (gtD p0 y5)⟩ :: ⟨_, true, .rep E_impl_Test A (gtD p0 y5)⟩ :: ⟨_, true, .raw v1⟩ :: ⟨_, true, .raw (.int .i64 y5)⟩ :: ⟨_, true, .qtr E_impl_Test A (gtD p1 y5)⟩ :: ⟨_, true, .rep E_impl_Test A (gtD p1 y5)⟩ :: ⟨_, true, .raw (.bool x9)⟩ :: ⟨_, true, .raw (.bool (!x9))⟩ :: []) (tl := []) (by kernel_rfl) (by kernel_rfl) (by kernel_rfl) (by kernel_rfl) ?_ ?_
    ·exact
      Obls.p (fun R' w' hw hs hd => of_move ((hs 0 rfl).trans h0)) <|
      Obls.p (fun R' w' hw hs hd => of_move ((hs 5 rfl).trans h5)) <|
      Obls.p (fun R' w' hw hs hd => by have a0 : R' 17 = v0 := hd.g 0 rfl; have a1 : R' 18 = .int .i64 y5 := hd.g 1 rfl; have ra0 := (f_v0.fr hw).eq a0; exact of_indexAddr ra0 a1 Try.underlying28 Try.sizeOf85 e7) <|
      Obls.p (fun R' w' hw hs hd => by have a0 : QRep E_impl_Test A w' (R' 19) (gtD p0 y5) := hd.g 0 rfl; exact (of_load a0.ptr Try.isAgg85 Try.sizeOf85)) <|
      Obls.p (fun R' w' hw hs hd => of_move ((hs 1 rfl).trans h1)) <|
      Obls.p (fun R' w' hw hs hd => of_move ((hs 5 rfl).trans h5)) <|
      Obls.p (fun R' w' hw hs hd => by have a0 : R' 21 = v1 := hd.g 0 rfl; have a1 : R' 22 = .int .i64 y5 := hd.g 1 rfl; have ra0 := (f_v1.fr hw).eq a0; exact of_indexAddr ra0 a1 Try.underlying28 Try.sizeOf85 e8) <|
      Obls.p (fun R' w' hw hs hd => by have a0 : QRep E_impl_Test A w' (R' 23) (gtD p1 y5) := hd.g 0 rfl; exact (of_load a0.ptr Try.isAgg85 Try.sizeOf85)) <|
      Obls.p (fun R' w' hw hs hd => by have a0 : Rep E_impl_Test A w' (R' 20) (gtD p0 y5) := hd.g 0 rfl; have a1 : Rep E_impl_Test A w' (R' 24) (gtD p1 y5) := hd.g 1 rfl; exact of_call Try.call98 (M_laws_eqTest_ok (q10 rfl) (hA.fr hw.size) a0 a1)) <|
      Obls.p (fun R' w' hw hs hd => by have a0 : R' 25 = .bool x9 := hd.g 0 rfl; exact of_not a0) <|
      Obls.nil
    intro R w hw hs hF'
    replace h0 := (hs 0 rfl).trans h0
    replace h1 := (hs 1 rfl).trans h1
    replace h5 := (hs 5 rfl).trans h5
    have h26 : R 26 = .bool (!x9) := hF' 9 _ _ rfl rfl rfl
    replace f_v0 := f_v0.fr hw
    replace f_v1 := f_v1.fr hw
    replace hA := hA.fr hw.size
    replace hF := hF.trans hw
    clear hs hF' hw
    refine seqR_nil ?_
    refine HT.cond (!x9) h26 (fun c11 => ?_) (fun c11 => ?_)
    ·have hr := cnd_t c11 hr
     refine HT.seq ?_
     refine HT.text (l := ⟨_, true, .raw (.bool false)⟩ :: []) (tl := []) (by kernel_rfl) (by kernel_rfl) (by kernel_rfl) ?_ ?_
     ·exact
       Obls.p (fun R' w' hw hs hd => of_assign rfl) <|
       Obls.nil
     intro R w hw hs hF'
     have h4 : R 4 = .bool false := hF' 0 _ _ rfl rfl rfl
     replace hA := hA.fr hw.size
     replace hF := hF.trans hw
     clear hs hF' hw
     refine seqR_nil ?_
     refine HT.ret ?_
     obtain rfl := Option.some.inj hr
     have hr := hr0
     replace hr : some _ = some _ := hr
     obtain rfl := Option.some.inj hr
     exact ⟨.inr rfl, [R 4], ⟨rfl, trivial⟩, h4, hF⟩
    ·have hr := cnd_f c11 hr
     refine HT.skip ?_
     obtain ⟨e12, hr⟩ := ck_some hr
     refine HT.text (l := ⟨_, true, .raw (.int .i64 y5)⟩ :: ⟨_, true, .raw (.int .i64 (y5 + (1 : Int)))⟩ :: ⟨_, true, .raw (.int .i64 (y5 + (1 : Int)))⟩ :: []) (tl := []) (by kernel_rfl) (by kernel_rfl) (by kernel_rfl) ?_ ?_
     ·exact
       Obls.p (fun R' w' hw hs hd => of_move ((hs 5 rfl).trans h5)) <|
       Obls.p (fun R' w' hw hs hd => by have a0 : R' 15 = .int .i64 y5 := hd.g 0 rfl; exact of_add a0 rfl e12) <|
       Obls.p (fun R' w' hw hs hd => by have a0 : R' 16 = .int .i64 (y5 + (1 : Int)) := hd.g 0 rfl; exact of_assign a0) <|
       Obls.nil
     intro R w hw hs hF'
     replace h0 := (hs 0 rfl).trans h0
     replace h1 := (hs 1 rfl).trans h1
     have h5 : R 5 = .int .i64 (y5 + (1 : Int)) := hF' 2 _ _ rfl rfl rfl
     replace f_v0 := f_v0.fr hw
     replace f_v1 := f_v1.fr hw
     replace hA := hA.fr hw.size
     replace hF := hF.trans hw
     clear hs hF' hw
     refine seqR_nil ?_
     exact Exists.intro k (And.intro (Nat.lt_succ_self k) ⟨_, hr, hA, hF, h0, h1, h5, f_v0, f_v1⟩)
   ·have hr := cnd_f c6 hr
    refine HT.exit ?_
    obtain rfl := Option.some.inj hr
    exact Exists.intro _ ⟨rfl, hA, hF⟩
  rintro R w ⟨s4, rfl, hA, hF⟩
  have hr := exM_go hr
  refine HT.seq ?_
  refine HT.text (l := ⟨_, true, .raw (.bool true)⟩ :: []) (tl := []) (by kernel_rfl) (by kernel_rfl) (by kernel_rfl) ?_ ?_
  ·exact
    Obls.p (fun R' w' hw hs hd => of_assign rfl) <|
    Obls.nil
  intro R w hw hs hF'
  have h4 : R 4 = .bool true := hF' 0 _ _ rfl rfl rfl
  replace hA := hA.fr hw.size
  replace hF := hF.trans hw
  clear hs hF' hw
  refine seqR_nil ?_
  refine HT.ret ?_
  obtain rfl := Option.some.inj hr
  exact ⟨.inr rfl, [R 4], ⟨rfl, trivial⟩, h4, hF⟩
def M_laws_eqRule (fu : Nat) (p0 : T_impl_Rule) (p1 : T_impl_Rule) : Option Bool :=
 cl true (M_laws_eqTestS fu p0 p1) fun x3 =>
 bif (!x3) then (
  some false
 ) else (
  some true
 )
theorem M_laws_eqRule_ok {fu : Nat} {A0 : Av} {p0 : T_impl_Rule} {p1 : T_impl_Rule} {r : Bool} (hr : M_laws_eqRule fu p0 p1 = some r) {w : World} {v0 : Value} {v1 : Value} (hA : AvOK A0 w) (h0 : Rep E_impl_Rule A0 w v0 p0) (h1 : Rep E_impl_Rule A0 w v1 p1) :
  Calls Try.prog 20 #[v0, v1] w fun e w' => ∃ v, e = .returned v ∧ (v = .bool r ∧ Fr w w') := by
 unfold M_laws_eqRule at hr
 obtain ⟨w0, hw0⟩ : ∃ w0, w0 = w := ⟨_, rfl⟩
 have hF : Fr w0 w := hw0 ▸ Fr.refl _
 have hA0 : ∀ b o, A0 b o → b < w0.heap.size := fun b o h => hw0 ▸ hA b o h
 have hA00 : AvOK A0 w0 := hA0
 rw [show Fr w = Fr w0 from hw0 ▸ rfl]
 clear hw0
 obtain ⟨A, hAe⟩ : ∃ A, A = A0 := ⟨_, rfl⟩
 have hAA : ∀ b o, A0 b o → A b o := fun b o h => hAe ▸ h
 replace hA : AvOK A w := hAe ▸ hA
 have hO : IniOK [] A w := IniOK.nil
 refine calls_of_HT2 [.tmp 4] Try.func20 Try.ntmps20 (by decide) rfl rfl (Nat.le_of_ble_eq_true rfl) ?_
 intro R hR
 have f_v0 : Rep E_impl_Rule A w v0 p0 := hAe ▸ h0
 replace h0 : R 0 = v0 := hR 0 _ rfl
 have f_v1 : Rep E_impl_Rule A w v1 p1 := hAe ▸ h1
 replace h1 : R 1 = v1 := hR 1 _ rfl
 clear hR hAe
 refine HT.seq ?_
 refine HT.textR [] (⟨_, true, [], some (.box w0.heap.size 30 E_impl_Rule p0), true, fun A => .any⟩ :: ⟨_, true, [], some (.box w0.heap.size 30 E_impl_Rule p1), true, fun A => .any⟩ :: ⟨_, true, [], none, true, fun A => .raw (.bool false)⟩ :: []) (by kernel_rfl) (by kernel_rfl) (Wf.mk' (by kernel_rfl) (UAll.cons ust_any (UAll.cons ust_any (UAll.cons ust_raw (UAll.nil)))) (by kernel_rfl) (by kernel_rfl)) hO hA ?_ ?_
 ·exact
   OblsR.cons (OblR.made _ rfl rfl rfl rfl fun A' R' w' ho hd => by have a0 : R' 0 = v0 := (ho.old 0 rfl).trans h0; have ra0 := (f_v0.stp ho.stp).eq a0; exact made_box ra0 (Nat.le_trans hF.size ho.ch.size)) <|
   OblsR.cons (OblR.made _ rfl rfl rfl rfl fun A' R' w' ho hd => by have a0 : R' 1 = v1 := (ho.old 1 rfl).trans h1; have ra0 := (f_v1.stp ho.stp).eq a0; exact made_box ra0 (Nat.le_trans hF.size ho.ch.size)) <|
   OblsR.p (fun A' R' w' ho hd => of_assign rfl) <|
   OblsR.nil
 intro done ρ σ A R w hdn hI
 obtain ⟨b2_0, e_b2_0⟩ := hI.boxv hdn 0 rfl rfl
 have h2 : R 2 = (.pointer (some ⟨b2_0, 0, none⟩)) := (hI.opvR hdn 0 0 rfl rfl rfl rfl rfl).symm.trans e_b2_0
 obtain ⟨b3_1, e_b3_1⟩ := hI.boxv hdn 1 rfl rfl
 have h3 : R 3 = (.pointer (some ⟨b3_1, 0, none⟩)) := (hI.opvR hdn 1 1 rfl rfl rfl rfl rfl).symm.trans e_b3_1
 replace hAA := hI.low' hAA hA0 (hO.ge (trivial))
 replace hF : Fr w0 w := hF.tr hI.ch (hO.ge (trivial))
 replace hO : IniOK [ob (.pointer (some ⟨b2_0, 0, none⟩)) (.box w0.heap.size 30 E_impl_Rule p0), ob (.pointer (some ⟨b3_1, 0, none⟩)) (.box w0.heap.size 30 E_impl_Rule p1)] A w := hI.left hdn [(0, ob (.pointer (some ⟨b2_0, 0, none⟩)) (.box w0.heap.size 30 E_impl_Rule p0)), (1, ob (.pointer (some ⟨b3_1, 0, none⟩)) (.box w0.heap.size 30 E_impl_Rule p1))] ⟨rfl, rfl, e_b2_0, rfl, rfl, ⟨rfl, rfl, e_b3_1, rfl, rfl, trivial⟩⟩
 replace hA := hI.avok
 clear hI
 refine HT.seq ?_
 refine HT.seq ?_
 obtain ⟨x3, q4, hr⟩ := cl_some hr
 refine HT.text (l := ⟨_, true, .raw (.pointer (some ⟨b2_0, 0, none⟩))⟩ :: ⟨_, true, .rep (eSl E_impl_Test) A p0⟩ :: ⟨_, true, .raw (.pointer (some ⟨b3_1, 0, none⟩))⟩ :: ⟨_, true, .rep (eSl E_impl_Test) A p1⟩ :: ⟨_, true, .raw (.bool x3)⟩ :: ⟨_, true, .raw (.bool (!x3))⟩ :: []) (tl := []) (by kernel_rfl) (by kernel_rfl) (by kernel_rfl) ?_ ?_
 ·exact
   Obls.p (fun R' w' hw hs hd => of_fieldAddr_raw ((hs 2 rfl).trans h2) ff_30_0 Try.sizeOf28 (by decide) rfl) <|
   Obls.p (fun R' w' hw hs hd => by have a0 : R' 5 = (.pointer (some ⟨b2_0, 0, none⟩)) := hd.g 0 rfl; exact (of_load_box ((hO.fr hw).ok 0 _ rfl).1 a0 fl_impl_Rule_0 rfl Try.isAgg28 Try.sizeOf28)) <|
   Obls.p (fun R' w' hw hs hd => of_fieldAddr_raw ((hs 3 rfl).trans h3) ff_30_0 Try.sizeOf28 (by decide) rfl) <|
   Obls.p (fun R' w' hw hs hd => by have a0 : R' 7 = (.pointer (some ⟨b3_1, 0, none⟩)) := hd.g 0 rfl; exact (of_load_box ((hO.fr hw).ok 1 _ rfl).1 a0 fl_impl_Rule_0 rfl Try.isAgg28 Try.sizeOf28)) <|
   Obls.p (fun R' w' hw hs hd => by have a0 : Rep (eSl E_impl_Test) A w' (R' 6) p0 := hd.g 0 rfl; have a1 : Rep (eSl E_impl_Test) A w' (R' 8) p1 := hd.g 1 rfl; exact of_call Try.call47 (M_laws_eqTestS_ok (q4 rfl) (hA.fr hw.size) a0 a1)) <|
   Obls.p (fun R' w' hw hs hd => by have a0 : R' 9 = .bool x3 := hd.g 0 rfl; exact of_not a0) <|
   Obls.nil
 intro R w hw hs hF'
 have h10 : R 10 = .bool (!x3) := hF' 5 _ _ rfl rfl rfl
 replace hO := hO.fr hw
 replace hO : IniOK [] A w := hO.sub [] trivial
 replace hA := hA.fr hw.size
 replace hF := hF.trans hw
 clear hs hF' hw
 refine seqR_nil ?_
 refine HT.cond (!x3) h10 (fun c5 => ?_) (fun c5 => ?_)
 ·have hr := cnd_t c5 hr
  refine HT.seq ?_
  refine HT.text (l := ⟨_, true, .raw (.bool false)⟩ :: []) (tl := []) (by kernel_rfl) (by kernel_rfl) (by kernel_rfl) ?_ ?_
  ·exact
    Obls.p (fun R' w' hw hs hd => of_assign rfl) <|
    Obls.nil
  intro R w hw hs hF'
  have h4 : R 4 = .bool false := hF' 0 _ _ rfl rfl rfl
  replace hO := hO.fr hw
  replace hA := hA.fr hw.size
  replace hF := hF.trans hw
  clear hs hF' hw
  refine seqR_nil ?_
  refine HT.ret ?_
  obtain rfl := Option.some.inj hr
  exact ⟨.inr rfl, [R 4], ⟨rfl, trivial⟩, h4, hF⟩
 ·have hr := cnd_f c5 hr
  refine HT.skip ?_
  refine HT.seq ?_
  refine HT.text (l := ⟨_, true, .raw (.bool true)⟩ :: []) (tl := []) (by kernel_rfl) (by kernel_rfl) (by kernel_rfl) ?_ ?_
  ·exact
    Obls.p (fun R' w' hw hs hd => of_assign rfl) <|
    Obls.nil
  intro R w hw hs hF'
  have h4 : R 4 = .bool true := hF' 0 _ _ rfl rfl rfl
  replace hO := hO.fr hw
  replace hA := hA.fr hw.size
  replace hF := hF.trans hw
  clear hs hF' hw
  refine seqR_nil ?_
  refine HT.ret ?_
  obtain rfl := Option.some.inj hr
  exact ⟨.inr rfl, [R 4], ⟨rfl, trivial⟩, h4, hF⟩
def M_laws_eqRuleS_L0 (fu : Nat) (p0 : List T_impl_Rule) (p1 : List T_impl_Rule) : Nat → Int → Option (Ex Bool Unit)
 | 0, _ => none
 | k + 1, y5 =>
  bif (decide (y5 < (p0.length : Int))) then (
   ck (inR y5 p0.length) <|
   ck (inR y5 p1.length) <|
   cl true (M_laws_eqRule fu (gtD p0 y5) (gtD p1 y5)) fun x9 =>
   bif (!x9) then (
    some (Ex.ret false)
   ) else (
    ck (i64B (y5 + (1 : Int))) <|
    M_laws_eqRuleS_L0 fu p0 p1 k (y5 + (1 : Int))
   )
  ) else (
   some (Ex.go ())
  )
def M_laws_eqRuleS (fu : Nat) (p0 : List T_impl_Rule) (p1 : List T_impl_Rule) : Option Bool :=
 bif ((p0.length : Int) != (p1.length : Int)) then (
  some false
 ) else (
  cl true (M_laws_eqRuleS_L0 fu p0 p1 fu (0 : Int)) fun rl2 =>
  exM rl2 (fun r => some r) fun s4 =>
  some true
 )
theorem M_laws_eqRuleS_ok {fu : Nat} {A : Av} {p0 : List T_impl_Rule} {p1 : List T_impl_Rule} {r : Bool} (hr : M_laws_eqRuleS fu p0 p1 = some r) {w : World} {v0 : Value} {v1 : Value} (hA : AvOK A w) (h0 : Rep (eSl E_impl_Rule) A w v0 p0) (h1 : Rep (eSl E_impl_Rule) A w v1 p1) :
  Calls Try.prog 86 #[v0, v1] w fun e w' => ∃ v, e = .returned v ∧ (v = .bool r ∧ Fr w w') := by
 unfold M_laws_eqRuleS at hr
 obtain ⟨w0, hw0⟩ : ∃ w0, w0 = w := ⟨_, rfl⟩
 have hF : Fr w0 w := hw0 ▸ Fr.refl _
 rw [show Fr w = Fr w0 from hw0 ▸ rfl]
 clear hw0
 refine calls_of_HT2 [.tmp 4] Try.func86 Try.ntmps86 (by decide) rfl rfl (Nat.le_of_ble_eq_true rfl) ?_
 intro R hR
 have f_v0 := h0
 replace h0 : R 0 = v0 := hR 0 _ rfl
 have f_v1 := h1
 replace h1 : R 1 = v1 := hR 1 _ rfl
 clear hR
 refine HT.seq ?_
 refine HT.text (l := ⟨_, true, .raw (.bool false)⟩ :: []) (tl := []) (by kernel_rfl) (by kernel_rfl) (by kernel_rfl) ?_ ?_
 ·exact
   Obls.p (fun R' w' hw hs hd => of_assign rfl) <|
   Obls.nil
 intro R w hw hs hF'
 replace h0 := (hs 0 rfl).trans h0
 replace h1 := (hs 1 rfl).trans h1
 replace f_v0 := f_v0.fr hw
 replace f_v1 := f_v1.fr hw
 replace hA := hA.fr hw.size
 replace hF := hF.trans hw
 clear hs hF' hw
 refine seqR_nil ?_
 refine HT.seq ?_
 refine HT.seq ?_
 refine HT.text (l := ⟨_, true, .raw v0⟩ :: ⟨_, true, .raw (.int .i64 (p0.length : Int))⟩ :: ⟨_, true, .raw v1⟩ :: ⟨_, true, .raw (.int .i64 (p1.length : Int))⟩ :: ⟨_, true, .raw (.bool ((p0.length : Int) != (p1.length : Int)))⟩ :: []) (tl := []) (by kernel_rfl) (by kernel_rfl) (by kernel_rfl) ?_ ?_
 ·exact
   Obls.p (fun R' w' hw hs hd => of_move ((hs 0 rfl).trans h0)) <|
   Obls.p (fun R' w' hw hs hd => by have a0 : R' 6 = v0 := hd.g 0 rfl; have ra0 := (f_v0.fr hw).eq a0; exact of_len_sl (aT := #[]) ra0 Try.underlying60) <|
   Obls.p (fun R' w' hw hs hd => of_move ((hs 1 rfl).trans h1)) <|
   Obls.p (fun R' w' hw hs hd => by have a0 : R' 8 = v1 := hd.g 0 rfl; have ra0 := (f_v1.fr hw).eq a0; exact of_len_sl (aT := #[]) ra0 Try.underlying60) <|
   Obls.p (fun R' w' hw hs hd => by have a0 : R' 7 = .int .i64 (p0.length : Int) := hd.g 0 rfl; have a1 : R' 9 = .int .i64 (p1.length : Int) := hd.g 1 rfl; exact of_neq a0 a1) <|
   Obls.nil
 intro R w hw hs hF'
 replace h0 := (hs 0 rfl).trans h0
 replace h1 := (hs 1 rfl).trans h1
 have h10 : R 10 = .bool ((p0.length : Int) != (p1.length : Int)) := hF' 4 _ _ rfl rfl rfl
 replace f_v0 := f_v0.fr hw
 replace f_v1 := f_v1.fr hw
 replace hA := hA.fr hw.size
 replace hF := hF.trans hw
 clear hs hF' hw
 refine seqR_nil ?_
 refine HT.cond ((p0.length : Int) != (p1.length : Int)) h10 (fun c1 => ?_) (fun c1 => ?_)
 ·have hr := cnd_t c1 hr
  refine HT.seq ?_
  refine HT.text (l := ⟨_, true, .raw (.bool false)⟩ :: []) (tl := []) (by kernel_rfl) (by kernel_rfl) (by kernel_rfl) ?_ ?_
  ·exact
    Obls.p (fun R' w' hw hs hd => of_assign rfl) <|
    Obls.nil
  intro R w hw hs hF'
  have h4 : R 4 = .bool false := hF' 0 _ _ rfl rfl rfl
  replace hA := hA.fr hw.size
  replace hF := hF.trans hw
  clear hs hF' hw
  refine seqR_nil ?_
  refine HT.ret ?_
  obtain rfl := Option.some.inj hr
  exact ⟨.inr rfl, [R 4], ⟨rfl, trivial⟩, h4, hF⟩
 ·have hr := cnd_f c1 hr
  refine HT.skip ?_
  refine HT.seq ?_
  refine HT.seq ?_
  refine HT.text (l := ⟨_, true, .raw (.int .i64 (0 : Int))⟩ :: []) (tl := []) (by kernel_rfl) (by kernel_rfl) (by kernel_rfl) ?_ ?_
  ·exact
    Obls.p (fun R' w' hw hs hd => of_assign rfl) <|
    Obls.nil
  intro R w hw hs hF'
  replace h0 := (hs 0 rfl).trans h0
  replace h1 := (hs 1 rfl).trans h1
  have h5 : R 5 = .int .i64 (0 : Int) := hF' 0 _ _ rfl rfl rfl
  replace f_v0 := f_v0.fr hw
  replace f_v1 := f_v1.fr hw
  replace hA := hA.fr hw.size
  replace hF := hF.trans hw
  clear hs hF' hw
  refine seqR_nil ?_
  obtain ⟨rl2, q3, hr⟩ := cl_some hr
  replace q3 := q3 rfl
  refine HT.cut0 (fun R w => ∃ (s4 : Unit), rl2 = Ex.go s4 ∧ AvOK A w ∧ Fr w0 w) ?_ ?_
  ·refine HT.block ?_
   refine HT.loop (fun k R w => ∃ (y5 : Int), M_laws_eqRuleS_L0 fu p0 p1 k y5 = some rl2 ∧ AvOK A w ∧ Fr w0 w ∧ R 0 = v0 ∧ R 1 = v1 ∧ R 5 = .int .i64 y5 ∧ Rep (eSl E_impl_Rule) A w v0 p0 ∧ Rep (eSl E_impl_Rule) A w v1 p1) fu ⟨_, q3, hA, hF, h0, h1, h5, f_v0, f_v1⟩ ?_
   have hr0 := hr; clear hr q3
   rintro k R w ⟨y5, hr, hA, hF, h0, h1, h5, f_v0, f_v1⟩
   rcases k with _ | k
   ·cases (show none = some _ from hr)
   rw [M_laws_eqRuleS_L0] at hr
   refine HT.seq ?_
   refine HT.seq ?_
   refine HT.text (l := ⟨_, true, .raw (.int .i64 y5)⟩ :: ⟨_, true, .raw v0⟩ :: ⟨_, true, .raw (.int .i64 (p0.length : Int))⟩ :: ⟨_, true, .raw (.bool (decide (y5 < (p0.length : Int))))⟩ :: []) (tl := []) (by kernel_rfl) (by kernel_rfl) (by kernel_rfl) ?_ ?_
   ·exact
     Obls.p (fun R' w' hw hs hd => of_move ((hs 5 rfl).trans h5)) <|
     Obls.p (fun R' w' hw hs hd => of_move ((hs 0 rfl).trans h0)) <|
     Obls.p (fun R' w' hw hs hd => by have a0 : R' 12 = v0 := hd.g 0 rfl; have ra0 := (f_v0.fr hw).eq a0; exact of_len_sl (aT := #[]) ra0 Try.underlying60) <|
     Obls.p (fun R' w' hw hs hd => by have a0 : R' 11 = .int .i64 y5 := hd.g 0 rfl; have a1 : R' 13 = .int .i64 (p0.length : Int) := hd.g 1 rfl; exact of_lss a0 a1) <|
     Obls.nil
   intro R w hw hs hF'
   replace h0 := (hs 0 rfl).trans h0
   replace h1 := (hs 1 rfl).trans h1
   replace h5 := (hs 5 rfl).trans h5
   have h14 : R 14 = .bool (decide (y5 < (p0.length : Int))) := hF' 3 _ _ rfl rfl rfl
   replace f_v0 := f_v0.fr hw
   replace f_v1 := f_v1.fr hw
   replace hA := hA.fr hw.size
   replace hF := hF.trans hw
   clear hs hF' hw
   refine seqR_nil ?_
   refine HT.cond (decide (y5 < (p0.length : Int))) h14 (fun c6 => ?_) (fun c6 => ?_)
   ·have hr := cnd_t c6 hr
    refine HT.skip ?_
    refine HT.seq ?_
    refine HT.block ?_
    refine HT.seq ?_
    obtain ⟨e7, hr⟩ := ck_some hr
    obtain ⟨e8, hr⟩ := ck_some hr
    obtain ⟨x9, q10, hr⟩ := cl_some hr
    refine HT.draw (by kernel_rfl) (l := ⟨_, true, .raw v0⟩ :: ⟨_, true, .raw (.int .i64 y5)⟩ :: ⟨_, true, .qtr E_impl_Rule A (gtD p0 y5)⟩ :: ⟨_, true, .rep E_impl_Rule A (gtD p0 y5)⟩ :: ⟨_, true, .raw v1⟩ :: ⟨_, true, .raw (.int .i64 y5)⟩ :: ⟨_, true, .qtr E_impl_Rule A (gtD p1 y5)⟩ :: ⟨_, true, .rep E_impl_Rule A (gtD p1 y5)⟩ :: ⟨_, true, .raw (.bool x9)⟩ :: ⟨_, true, .raw (.bool (!x9))⟩ :: []) (tl := []) (by kernel_rfl) (by kernel_rfl) (by kernel_rfl) (by kernel_rfl) ?_ ?_
    ·exact
      Obls.p (fun R' w' hw hs hd => of_move ((hs 0 rfl).trans h0)) <|
      Obls.p (fun R' w' hw hs hd => of_move ((hs 5 rfl).trans h5)) <|
      Obls.p (fun R' w' hw hs hd => by have a0 : R' 17 = v0 := hd.g 0 rfl; have a1 : R' 18 = .int .i64 y5 := hd.g 1 rfl; have ra0 := (f_v0.fr hw).eq a0; exact of_indexAddr ra0 a1 Try.underlying60 Try.sizeOf30 e7) <|
      Obls.p (fun R' w' hw hs hd => by have a0 : QRep E_impl_Rule A w' (R' 19) (gtD p0 y5) := hd.g 0 rfl; exact (of_load a0.ptr Try.isAgg30 Try.sizeOf30)) <|
      Obls.p (fun R' w' hw hs hd => of_move ((hs 1 rfl).trans h1)) <|
      Obls.p (fun R' w' hw hs hd => of_move ((hs 5 rfl).trans h5)) <|
      Obls.p (fun R' w' hw hs hd => by have a0 : R' 21 = v1 := hd.g 0 rfl; have a1 : R' 22 = .int .i64 y5 := hd.g 1 rfl; have ra0 := (f_v1.fr hw).eq a0; exact of_indexAddr ra0 a1 Try.underlying60 Try.sizeOf30 e8) <|
      Obls.p (fun R' w' hw hs hd => by have a0 : QRep E_impl_Rule A w' (R' 23) (gtD p1 y5) := hd.g 0 rfl; exact (of_load a0.ptr Try.isAgg30 Try.sizeOf30)) <|
      Obls.p (fun R' w' hw hs hd => by have a0 : Rep E_impl_Rule A w' (R' 20) (gtD p0 y5) := hd.g 0 rfl; have a1 : Rep E_impl_Rule A w' (R' 24) (gtD p1 y5) := hd.g 1 rfl; exact of_call Try.call20 (M_laws_eqRule_ok (q10 rfl) (hA.fr hw.size) a0 a1)) <|
      Obls.p (fun R' w' hw hs hd => by have a0 : R' 25 = .bool x9 := hd.g 0 rfl; exact of_not a0) <|
      Obls.nil
    intro R w hw hs hF'
    replace h0 := (hs 0 rfl).trans h0
    replace h1 := (hs 1 rfl).trans h1
    replace h5 := (hs 5 rfl).trans h5
    have h26 : R 26 = .bool (!x9) := hF' 9 _ _ rfl rfl rfl
    replace f_v0 := f_v0.fr hw
    replace f_v1 := f_v1.fr hw
    replace hA := hA.fr hw.size
    replace hF := hF.trans hw
    clear hs hF' hw
    refine seqR_nil ?_
    refine HT.cond (!x9) h26 (fun c11 => ?_) (fun c11 => ?_)
    ·have hr := cnd_t c11 hr
     refine HT.seq ?_
     refine HT.text (l := ⟨_, true, .raw (.bool false)⟩ :: []) (tl := []) (by kernel_rfl) (by kernel_rfl) (by kernel_rfl) ?_ ?_
     ·exact
       Obls.p (fun R' w' hw hs hd => of_assign rfl) <|
       Obls.nil
     intro R w hw hs hF'
     have h4 : R 4 = .bool false := hF' 0 _ _ rfl rfl rfl
     replace hA := hA.fr hw.size
     replace hF := hF.trans hw
     clear hs hF' hw
     refine seqR_nil ?_
     refine HT.ret ?_
     obtain rfl := Option.some.inj hr
     have hr := hr0
     replace hr : some _ = some _ := hr
     obtain rfl := Option.some.inj hr
     exact ⟨.inr rfl, [R 4], ⟨rfl, trivial⟩, h4, hF⟩
    ·have hr := cnd_f c11 hr
     refine HT.skip ?_
     obtain ⟨e12, hr⟩ := ck_some hr
     refine HT.text (l := ⟨_, true, .raw (.int .i64 y5)⟩ :: ⟨_, true, .raw (.int .i64 (y5 + (1 : Int)))⟩ :: ⟨_, true, .raw (.int .i64 (y5 + (1 : Int)))⟩ :: []) (tl := []) (by kernel_rfl) (by kernel_rfl) (by kernel_rfl) ?_ ?_
     ·exact
       Obls.p (fun R' w' hw hs hd => of_move ((hs 5 rfl).trans h5)) <|
       Obls.p (fun R' w' hw hs hd => by have a0 : R' 15 = .int .i64 y5 := hd.g 0 rfl; exact of_add a0 rfl e12) <|
       Obls.p (fun R' w' hw hs hd => by have a0 : R' 16 = .int .i64 (y5 + (1 : Int)) := hd.g 0 rfl; exact of_assign a0) <|
       Obls.nil
     intro R w hw hs hF'
     replace h0 := (hs 0 rfl).trans h0
     replace h1 := (hs 1 rfl).trans h1
     have h5 : R 5 = .int .i64 (y5 + (1 : Int)) := hF' 2 _ _ rfl rfl rfl
     replace f_v0 := f_v0.fr hw
     replace f_v1 := f_v1.fr hw
     replace hA := hA.fr hw.size
     replace hF := hF.trans hw
     clear hs hF' hw
     refine seqR_nil ?_
     exact Exists.intro k (And.intro (Nat.lt_succ_self k) ⟨_, hr, hA, hF, h0, h1, h5, f_v0, f_v1⟩)
   ·have hr := cnd_f c6 hr
    refine HT.exit ?_
    obtain rfl := Option.some.inj hr
    exact Exists.intro _ ⟨rfl, hA, hF⟩
  rintro R w ⟨s4, rfl, hA, hF⟩
  have hr := exM_go hr
  refine HT.seq ?_
  refine HT.text (l := ⟨_, true, .raw (.bool true)⟩ :: []) (tl := []) (by kernel_rfl) (by kernel_rfl) (by kernel_rfl) ?_ ?_
  ·exact
    Obls.p (fun R' w' hw hs hd => of_assign rfl) <|
    Obls.nil
  intro R w hw hs hF'
  have h4 : R 4 = .bool true := hF' 0 _ _ rfl rfl rfl
  replace hA := hA.fr hw.size
  replace hF := hF.trans hw
  clear hs hF' hw
  refine seqR_nil ?_
  refine HT.ret ?_
  obtain rfl := Option.some.inj hr
  exact ⟨.inr rfl, [R 4], ⟨rfl, trivial⟩, h4, hF⟩
def M_laws_eqRuleSet (fu : Nat) (p0 : T_impl_RuleSet) (p1 : T_impl_RuleSet) : Option Bool :=
 cl true (M_laws_eqRuleS fu p0 p1) fun x3 =>
 bif (!x3) then (
  some false
 ) else (
  some true
 )
theorem M_laws_eqRuleSet_ok {fu : Nat} {A0 : Av} {p0 : T_impl_RuleSet} {p1 : T_impl_RuleSet} {r : Bool} (hr : M_laws_eqRuleSet fu p0 p1 = some r) {w : World} {v0 : Value} {v1 : Value} (hA : AvOK A0 w) (h0 : Rep E_impl_RuleSet A0 w v0 p0) (h1 : Rep E_impl_RuleSet A0 w v1 p1) :
  Calls Try.prog 36 #[v0, v1] w fun e w' => ∃ v, e = .returned v ∧ (v = .bool r ∧ Fr w w') := by
 unfold M_laws_eqRuleSet at hr
 obtain ⟨w0, hw0⟩ : ∃ w0, w0 = w := ⟨_, rfl⟩
 have hF : Fr w0 w := hw0 ▸ Fr.refl _
 have hA0 : ∀ b o, A0 b o → b < w0.heap.size := fun b o h => hw0 ▸ hA b o h
 have hA00 : AvOK A0 w0 := hA0
 rw [show Fr w = Fr w0 from hw0 ▸ rfl]
 clear hw0
 obtain ⟨A, hAe⟩ : ∃ A, A = A0 := ⟨_, rfl⟩
 have hAA : ∀ b o, A0 b o → A b o := fun b o h => hAe ▸ h
 replace hA : AvOK A w := hAe ▸ hA
 have hO : IniOK [] A w := IniOK.nil
 refine calls_of_HT2 [.tmp 4] Try.func36 Try.ntmps36 (by decide) rfl rfl (Nat.le_of_ble_eq_true rfl) ?_
 intro R hR
 have f_v0 : Rep E_impl_RuleSet A w v0 p0 := hAe ▸ h0
 replace h0 : R 0 = v0 := hR 0 _ rfl
 have f_v1 : Rep E_impl_RuleSet A w v1 p1 := hAe ▸ h1
 replace h1 : R 1 = v1 := hR 1 _ rfl
 clear hR hAe
 refine HT.seq ?_
 refine HT.textR [] (⟨_, true, [], some (.box w0.heap.size 62 E_impl_RuleSet p0), true, fun A => .any⟩ :: ⟨_, true, [], some (.box w0.heap.size 62 E_impl_RuleSet p1), true, fun A => .any⟩ :: ⟨_, true, [], none, true, fun A => .raw (.bool false)⟩ :: []) (by kernel_rfl) (by kernel_rfl) (Wf.mk' (by kernel_rfl) (UAll.cons ust_any (UAll.cons ust_any (UAll.cons ust_raw (UAll.nil)))) (by kernel_rfl) (by kernel_rfl)) hO hA ?_ ?_
 ·exact
   OblsR.cons (OblR.made _ rfl rfl rfl rfl fun A' R' w' ho hd => by have a0 : R' 0 = v0 := (ho.old 0 rfl).trans h0; have ra0 := (f_v0.stp ho.stp).eq a0; exact made_box ra0 (Nat.le_trans hF.size ho.ch.size)) <|
   OblsR.cons (OblR.made _ rfl rfl rfl rfl fun A' R' w' ho hd => by have a0 : R' 1 = v1 := (ho.old 1 rfl).trans h1; have ra0 := (f_v1.stp ho.stp).eq a0; exact made_box ra0 (Nat.le_trans hF.size ho.ch.size)) <|
   OblsR.p (fun A' R' w' ho hd => of_assign rfl) <|
   OblsR.nil
 intro done ρ σ A R w hdn hI
 obtain ⟨b2_0, e_b2_0⟩ := hI.boxv hdn 0 rfl rfl
 have h2 : R 2 = (.pointer (some ⟨b2_0, 0, none⟩)) := (hI.opvR hdn 0 0 rfl rfl rfl rfl rfl).symm.trans e_b2_0
 obtain ⟨b3_1, e_b3_1⟩ := hI.boxv hdn 1 rfl rfl
 have h3 : R 3 = (.pointer (some ⟨b3_1, 0, none⟩)) := (hI.opvR hdn 1 1 rfl rfl rfl rfl rfl).symm.trans e_b3_1
 replace hAA := hI.low' hAA hA0 (hO.ge (trivial))
 replace hF : Fr w0 w := hF.tr hI.ch (hO.ge (trivial))
 replace hO : IniOK [ob (.pointer (some ⟨b2_0, 0, none⟩)) (.box w0.heap.size 62 E_impl_RuleSet p0), ob (.pointer (some ⟨b3_1, 0, none⟩)) (.box w0.heap.size 62 E_impl_RuleSet p1)] A w := hI.left hdn [(0, ob (.pointer (some ⟨b2_0, 0, none⟩)) (.box w0.heap.size 62 E_impl_RuleSet p0)), (1, ob (.pointer (some ⟨b3_1, 0, none⟩)) (.box w0.heap.size 62 E_impl_RuleSet p1))] ⟨rfl, rfl, e_b2_0, rfl, rfl, ⟨rfl, rfl, e_b3_1, rfl, rfl, trivial⟩⟩
 replace hA := hI.avok
 clear hI
 refine HT.seq ?_
 refine HT.seq ?_
 obtain ⟨x3, q4, hr⟩ := cl_some hr
 refine HT.text (l := ⟨_, true, .raw (.pointer (some ⟨b2_0, 0, none⟩))⟩ :: ⟨_, true, .rep (eSl E_impl_Rule) A p0⟩ :: ⟨_, true, .raw (.pointer (some ⟨b3_1, 0, none⟩))⟩ :: ⟨_, true, .rep (eSl E_impl_Rule) A p1⟩ :: ⟨_, true, .raw (.bool x3)⟩ :: ⟨_, true, .raw (.bool (!x3))⟩ :: []) (tl := []) (by kernel_rfl) (by kernel_rfl) (by kernel_rfl) ?_ ?_
 ·exact
   Obls.p (fun R' w' hw hs hd => of_fieldAddr_raw ((hs 2 rfl).trans h2) ff_62_0 Try.sizeOf60 (by decide) rfl) <|
   Obls.p (fun R' w' hw hs hd => by have a0 : R' 5 = (.pointer (some ⟨b2_0, 0, none⟩)) := hd.g 0 rfl; exact (of_load_box ((hO.fr hw).ok 0 _ rfl).1 a0 fl_impl_RuleSet_0 rfl Try.isAgg60 Try.sizeOf60)) <|
   Obls.p (fun R' w' hw hs hd => of_fieldAddr_raw ((hs 3 rfl).trans h3) ff_62_0 Try.sizeOf60 (by decide) rfl) <|
   Obls.p (fun R' w' hw hs hd => by have a0 : R' 7 = (.pointer (some ⟨b3_1, 0, none⟩)) := hd.g 0 rfl; exact (of_load_box ((hO.fr hw).ok 1 _ rfl).1 a0 fl_impl_RuleSet_0 rfl Try.isAgg60 Try.sizeOf60)) <|
   Obls.p (fun R' w' hw hs hd => by have a0 : Rep (eSl E_impl_Rule) A w' (R' 6) p0 := hd.g 0 rfl; have a1 : Rep (eSl E_impl_Rule) A w' (R' 8) p1 := hd.g 1 rfl; exact of_call Try.call86 (M_laws_eqRuleS_ok (q4 rfl) (hA.fr hw.size) a0 a1)) <|
   Obls.p (fun R' w' hw hs hd => by have a0 : R' 9 = .bool x3 := hd.g 0 rfl; exact of_not a0) <|
   Obls.nil
 intro R w hw hs hF'
 have h10 : R 10 = .bool (!x3) := hF' 5 _ _ rfl rfl rfl
 replace hO := hO.fr hw
 replace hO : IniOK [] A w := hO.sub [] trivial
 replace hA := hA.fr hw.size
 replace hF := hF.trans hw
 clear hs hF' hw
 refine seqR_nil ?_
 refine HT.cond (!x3) h10 (fun c5 => ?_) (fun c5 => ?_)
 ·have hr := cnd_t c5 hr
  refine HT.seq ?_
  refine HT.text (l := ⟨_, true, .raw (.bool false)⟩ :: []) (tl := []) (by kernel_rfl) (by kernel_rfl) (by kernel_rfl) ?_ ?_
  ·exact
    Obls.p (fun R' w' hw hs hd => of_assign rfl) <|
    Obls.nil
  intro R w hw hs hF'
  have h4 : R 4 = .bool false := hF' 0 _ _ rfl rfl rfl
  replace hO := hO.fr hw
  replace hA := hA.fr hw.size
  replace hF := hF.trans hw
  clear hs hF' hw
  refine seqR_nil ?_
  refine HT.ret ?_
  obtain rfl := Option.some.inj hr
  exact ⟨.inr rfl, [R 4], ⟨rfl, trivial⟩, h4, hF⟩
 ·have hr := cnd_f c5 hr
  refine HT.skip ?_
  refine HT.seq ?_
  refine HT.text (l := ⟨_, true, .raw (.bool true)⟩ :: []) (tl := []) (by kernel_rfl) (by kernel_rfl) (by kernel_rfl) ?_ ?_
  ·exact
    Obls.p (fun R' w' hw hs hd => of_assign rfl) <|
    Obls.nil
  intro R w hw hs hF'
  have h4 : R 4 = .bool true := hF' 0 _ _ rfl rfl rfl
  replace hO := hO.fr hw
  replace hA := hA.fr hw.size
  replace hF := hF.trans hw
  clear hs hF' hw
  refine seqR_nil ?_
  refine HT.ret ?_
  obtain rfl := Option.some.inj hr
  exact ⟨.inr rfl, [R 4], ⟨rfl, trivial⟩, h4, hF⟩
def M_laws_markTestS_L0 (fu : Nat) : Nat → Int → Int → (List T_impl_Test) → Option (Int × (List T_impl_Test))
 | 0, _, _, _ => none
 | k + 1, y4, y5, y6 =>
  bif (decide (y5 < (y6.length : Int))) then (
   ck (inR y5 y6.length) <|
   ck (i64B (y4 + (1 : Int))) <|
   ck (inR y5 (y6.set y5.toNat (y4, (gtD y6 y5).2.1, (gtD y6 y5).2.2)).length) <|
   ck (i64B ((y4 + (1 : Int)) + (1 : Int))) <|
   ck ((3 : Int) != 0) <|
   ck (inR y5 ((y6.set y5.toNat (y4, (gtD y6 y5).2.1, (gtD y6 y5).2.2)).set y5.toNat ((gtD (y6.set y5.toNat (y4, (gtD y6 y5).2.1, (gtD y6 y5).2.2)) y5).1, (y4 + (1 : Int)), (gtD (y6.set y5.toNat (y4, (gtD y6 y5).2.1, (gtD y6 y5).2.2)) y5).2.2)).length) <|
   ck (i64B (((y4 + (1 : Int)) + (1 : Int)) + (1 : Int))) <|
   ck (i64B (y5 + (1 : Int))) <|
   M_laws_markTestS_L0 fu k (((y4 + (1 : Int)) + (1 : Int)) + (1 : Int)) (y5 + (1 : Int)) (((y6.set y5.toNat (y4, (gtD y6 y5).2.1, (gtD y6 y5).2.2)).set y5.toNat ((gtD (y6.set y5.toNat (y4, (gtD y6 y5).2.1, (gtD y6 y5).2.2)) y5).1, (y4 + (1 : Int)), (gtD (y6.set y5.toNat (y4, (gtD y6 y5).2.1, (gtD y6 y5).2.2)) y5).2.2)).set y5.toNat ((gtD ((y6.set y5.toNat (y4, (gtD y6 y5).2.1, (gtD y6 y5).2.2)).set y5.toNat ((gtD (y6.set y5.toNat (y4, (gtD y6 y5).2.1, (gtD y6 y5).2.2)) y5).1, (y4 + (1 : Int)), (gtD (y6.set y5.toNat (y4, (gtD y6 y5).2.1, (gtD y6 y5).2.2)) y5).2.2)) y5).1, (gtD ((y6.set y5.toNat (y4, (gtD y6 y5).2.1, (gtD y6 y5).2.2)).set y5.toNat ((gtD (y6.set y5.toNat (y4, (gtD y6 y5).2.1, (gtD y6 y5).2.2)) y5).1, (y4 + (1 : Int)), (gtD (y6.set y5.toNat (y4, (gtD y6 y5).2.1, (gtD y6 y5).2.2)) y5).2.2)) y5).2.1, ((((y4 + (1 : Int)) + (1 : Int)).tmod (3 : Int)) == (0 : Int))))
  ) else (
   some (y4, y6)
  )
def M_laws_markTestS (fu : Nat) (p0 : List T_impl_Test) (p1 : Int) : Option (Int × List T_impl_Test) :=
 cl true (M_laws_markTestS_L0 fu fu p1 (0 : Int) p0) fun s3 =>
 some (s3.1, s3.2)
theorem M_laws_markTestS_ok {fu : Nat} {A0 : Av} {p0 : List T_impl_Test} {p1 : Int} {r : Int × List T_impl_Test} (hr : M_laws_markTestS fu p0 p1 = some r) {w : World} {v0 : Value} {v1 : Value} {B0 : Nat} (hA : AvOK A0 w) (hN : ∀ b o, A0 b o → ¬ ownsB v0 b) (h0 : (Res.vec B0 85 E_impl_Test p0).ok A0 v0 w) (h1 : v1 = .int .i64 p1) :
  Calls Try.prog 49 #[v0, v1] w fun e w' => ∃ v, e = .returned v ∧ (v = .int .i64 r.1 ∧ (Res.vec B0 85 E_impl_Test r.2).ok A0 v0 w' ∧ Ch (ownsB v0) w w') := by
 unfold M_laws_markTestS at hr
 obtain ⟨w0, hw0⟩ : ∃ w0, w0 = w := ⟨_, rfl⟩
 have hF : Ch (ownsB v0) w0 w := hw0 ▸ Ch.refl _ _
 have hA0 : ∀ b o, A0 b o → b < w0.heap.size := fun b o h => hw0 ▸ hA b o h
 have hA00 : AvOK A0 w0 := hA0
 rw [show Ch (ownsB v0) w = Ch (ownsB v0) w0 from hw0 ▸ rfl]
 clear hw0
 obtain ⟨A, hAe⟩ : ∃ A, A = addA A0 v0 := ⟨_, rfl⟩
 have hAA : ∀ b o, A0 b o → A b o := fun b o h => hAe ▸ .inl h
 replace hA : AvOK A w := hAe ▸ hA.one h0
 have hO : IniOK [ob v0 (.vec B0 85 E_impl_Test p0)] A w := hAe ▸ IniOK.one h0 (fun _ _ _ _ _ h => h)
 refine calls_of_HT2 [.tmp 4] Try.func49 Try.ntmps49 (by decide) rfl rfl (Nat.le_of_ble_eq_true rfl) ?_
 intro R hR
 replace h0 : R 0 = v0 := hR 0 _ rfl
 replace h1 : R 1 = .int .i64 p1 := (hR 1 _ rfl).trans h1
 clear hR hAe
 refine HT.seq ?_
 refine HT.text (l := ⟨_, true, .raw (.int .i64 (0 : Int))⟩ :: []) (tl := []) (by kernel_rfl) (by kernel_rfl) (by kernel_rfl) ?_ ?_
 ·exact
   Obls.p (fun R' w' hw hs hd => of_assign rfl) <|
   Obls.nil
 intro R w hw hs hF'
 replace h0 := (hs 0 rfl).trans h0
 replace h1 := (hs 1 rfl).trans h1
 replace hO := hO.fr hw
 replace hA := hA.fr hw.size
 replace hF := hF.tr (hw.ch noB) fun _ h => False.elim h
 clear hs hF' hw
 refine seqR_nil ?_
 refine HT.seq ?_
 refine HT.seq ?_
 refine HT.text (l := ⟨_, true, .raw (.int .i64 (0 : Int))⟩ :: []) (tl := []) (by kernel_rfl) (by kernel_rfl) (by kernel_rfl) ?_ ?_
 ·exact
   Obls.p (fun R' w' hw hs hd => of_assign rfl) <|
   Obls.nil
 intro R w hw hs hF'
 replace h0 := (hs 0 rfl).trans h0
 replace h1 := (hs 1 rfl).trans h1
 have h5 : R 5 = .int .i64 (0 : Int) := hF' 0 _ _ rfl rfl rfl
 replace hO := hO.fr hw
 replace hA := hA.fr hw.size
 replace hF := hF.tr (hw.ch noB) fun _ h => False.elim h
 clear hs hF' hw
 refine seqR_nil ?_
 obtain ⟨rl1, q2, hr⟩ := cl_some hr
 replace q2 := q2 rfl
 refine HT.cut0 (fun R w => ∃ A : Av, ∃ (s3 : Int × (List T_impl_Test)), rl1 = s3 ∧ AvOK A w ∧ Ch (ownsB v0) w0 w ∧ (∀ b o, A0 b o → A b o) ∧ IniOK [ob v0 (.vec B0 85 E_impl_Test s3.2)] A w ∧ R 1 = .int .i64 s3.1) ?_ ?_
 ·refine HT.block ?_
  refine HT.loop (fun k R w => ∃ A : Av, ∃ (y4 : Int) (y5 : Int) (y6 : List T_impl_Test), M_laws_markTestS_L0 fu k y4 y5 y6 = some rl1 ∧ AvOK A w ∧ Ch (ownsB v0) w0 w ∧ (∀ b o, A0 b o → A b o) ∧ IniOK [ob v0 (.vec B0 85 E_impl_Test y6)] A w ∧ R 0 = v0 ∧ R 1 = .int .i64 y4 ∧ R 5 = .int .i64 y5) fu ⟨_, _, _, _, q2, hA, hF, hAA, hO, h0, h1, h5⟩ ?_
  have hr0 := hr; clear hr q2
  rintro k R w ⟨A, y4, y5, y6, hr, hA, hF, hAA, hO, h0, h1, h5⟩
  rcases k with _ | k
  ·cases (show none = some _ from hr)
  rw [M_laws_markTestS_L0] at hr
  refine HT.seq ?_
  refine HT.seq ?_
  refine HT.text (l := ⟨_, true, .raw (.int .i64 y5)⟩ :: ⟨_, true, .raw v0⟩ :: ⟨_, true, .raw (.int .i64 (y6.length : Int))⟩ :: ⟨_, true, .raw (.bool (decide (y5 < (y6.length : Int))))⟩ :: []) (tl := []) (by kernel_rfl) (by kernel_rfl) (by kernel_rfl) ?_ ?_
  ·exact
    Obls.p (fun R' w' hw hs hd => of_move ((hs 5 rfl).trans h5)) <|
    Obls.p (fun R' w' hw hs hd => of_move ((hs 0 rfl).trans h0)) <|
    Obls.p (fun R' w' hw hs hd => by have a0 : R' 7 = v0 := hd.g 0 rfl; exact of_len_vec (hO.ok 0 _ rfl).1 a0 Try.underlying28) <|
    Obls.p (fun R' w' hw hs hd => by have a0 : R' 6 = .int .i64 y5 := hd.g 0 rfl; have a1 : R' 8 = .int .i64 (y6.length : Int) := hd.g 1 rfl; exact of_lss a0 a1) <|
    Obls.nil
  intro R w hw hs hF'
  replace h0 := (hs 0 rfl).trans h0
  replace h1 := (hs 1 rfl).trans h1
  replace h5 := (hs 5 rfl).trans h5
  have h9 : R 9 = .bool (decide (y5 < (y6.length : Int))) := hF' 3 _ _ rfl rfl rfl
  replace hO := hO.fr hw
  replace hA := hA.fr hw.size
  replace hF := hF.tr (hw.ch noB) fun _ h => False.elim h
  clear hs hF' hw
  refine seqR_nil ?_
  refine HT.cond (decide (y5 < (y6.length : Int))) h9 (fun c7 => ?_) (fun c7 => ?_)
  ·have hr := cnd_t c7 hr
   refine HT.skip ?_
   refine HT.seq ?_
   refine HT.block ?_
   refine HT.seq ?_
   obtain ⟨e8, hr⟩ := ck_some hr
   refine HT.textR [ob v0 (.vec B0 85 E_impl_Test y6)] (⟨_, true, [], none, true, fun A => .raw v0⟩ :: ⟨_, true, [], none, true, fun A => .raw (.int .i64 y5)⟩ :: ⟨_, true, [], none, true, fun A => .raw (.int .i64 y4)⟩ :: ⟨_, true, [], none, true, fun A => .raw (vptr v0 (y5.toNat * 3))⟩ :: ⟨_, true, [], none, true, fun A => .raw (vptr v0 (y5.toNat * 3 + 0))⟩ :: ⟨_, true, [0], some (.vec B0 85 E_impl_Test (y6.set y5.toNat (y4, (gtD y6 y5).2.1, (gtD y6 y5).2.2))), false, fun A => .any⟩ :: []) (by kernel_rfl) (by kernel_rfl) (Wf.mk' (by kernel_rfl) (UAll.cons ust_raw (UAll.cons ust_raw (UAll.cons ust_raw (UAll.cons ust_raw (UAll.cons ust_raw (UAll.cons ust_any (UAll.nil))))))) (by kernel_rfl) (by kernel_rfl)) hO hA ?_ ?_
   ·exact
     OblsR.p (fun A' R' w' ho hd => of_move ((ho.old 0 rfl).trans h0)) <|
     OblsR.p (fun A' R' w' ho hd => of_move ((ho.old 5 rfl).trans h5)) <|
     OblsR.p (fun A' R' w' ho hd => of_move ((ho.old 1 rfl).trans h1)) <|
     OblsR.p (fun A' R' w' ho hd => by have a0 : R' 12 = v0 := hd.g 0 rfl; have a1 : R' 13 = .int .i64 y5 := hd.g 1 rfl; exact of_indexAddr_vec (hO.ok 0 _ rfl).1 a0 a1 Try.underlying28 Try.sizeOf85 e8 rfl) <|
     OblsR.p (fun A' R' w' ho hd => by have a0 : R' 15 = (vptr v0 (y5.toNat * 3)) := hd.g 0 rfl; exact of_fieldAddr_vec (ho.rd 0 _ rfl rfl) (inR_ne e8) a0 ff_85_0 Try.sizeOf3 (by decide) rfl) <|
     OblsR.cons (OblR.took 0 _ _ rfl rfl rfl rfl rfl fun A' R' w' ho hd u hok hav hin hop hds => by have a0 : R' 16 = (vptr v0 (y5.toNat * 3 + 0)) := hd.g 0 rfl; have a1 : R' 14 = .int .i64 y4 := hd.g 1 rfl; obtain rfl := hin _ rfl; exact took_vstore (rep_int.eq a1) hok hav a0 e8 rfl fs_impl_Test_0 Try.sizeOf3 rfl) <|
     OblsR.nil
   intro done ρ σ A R w hdn hI
   replace h0 : R 0 = v0 := (hI.reg rfl).trans h0
   replace h1 : R 1 = .int .i64 y4 := (hI.reg rfl).trans h1
   replace h5 : R 5 = .int .i64 y5 := (hI.reg rfl).trans h5
   have z9 := hI.inivR 0 rfl
   have z10 := (hI.opnR hdn 6 5 rfl rfl rfl rfl rfl).trans z9
   replace hAA := hI.lowK hAA hA0 hN (hO.geK (⟨.inr (fun k h => .inr h), trivial⟩))
   replace hF : Ch (ownsB v0) w0 w := hF.tr hI.ch (hO.geK (⟨.inr (fun k h => .inr h), trivial⟩))
   replace hO : IniOK [ob v0 (.vec B0 85 E_impl_Test (y6.set y5.toNat (y4, (gtD y6 y5).2.1, (gtD y6 y5).2.2)))] A w := hI.left hdn [(6, ob v0 (.vec B0 85 E_impl_Test (y6.set y5.toNat (y4, (gtD y6 y5).2.1, (gtD y6 y5).2.2))))] ⟨rfl, rfl, z10, rfl, rfl, trivial⟩
   replace hA := hI.avok
   clear hI
   refine HT.seq ?_
   obtain ⟨e11, hr⟩ := ck_some hr
   refine HT.text (l := ⟨_, true, .raw (.int .i64 y4)⟩ :: ⟨_, true, .raw (.int .i64 (y4 + (1 : Int)))⟩ :: ⟨_, true, .raw (.int .i64 (y4 + (1 : Int)))⟩ :: []) (tl := []) (by kernel_rfl) (by kernel_rfl) (by kernel_rfl) ?_ ?_
   ·exact
     Obls.p (fun R' w' hw hs hd => of_move ((hs 1 rfl).trans h1)) <|
     Obls.p (fun R' w' hw hs hd => by have a0 : R' 17 = .int .i64 y4 := hd.g 0 rfl; exact of_add a0 rfl e11) <|
     Obls.p (fun R' w' hw hs hd => by have a0 : R' 18 = .int .i64 (y4 + (1 : Int)) := hd.g 0 rfl; exact of_assign a0) <|
     Obls.nil
   intro R w hw hs hF'
   replace h0 := (hs 0 rfl).trans h0
   replace h5 := (hs 5 rfl).trans h5
   have h1 : R 1 = .int .i64 (y4 + (1 : Int)) := hF' 2 _ _ rfl rfl rfl
   replace hO := hO.fr hw
   replace hA := hA.fr hw.size
   replace hF := hF.tr (hw.ch noB) fun _ h => False.elim h
   clear hs hF' hw
   refine seqR_nil ?_
   refine HT.seq ?_
   obtain ⟨e12, hr⟩ := ck_some hr
   refine HT.textR [ob v0 (.vec B0 85 E_impl_Test (y6.set y5.toNat (y4, (gtD y6 y5).2.1, (gtD y6 y5).2.2)))] (⟨_, true, [], none, true, fun A => .raw v0⟩ :: ⟨_, true, [], none, true, fun A => .raw (.int .i64 y5)⟩ :: ⟨_, true, [], none, true, fun A => .raw (.int .i64 (y4 + (1 : Int)))⟩ :: ⟨_, true, [], none, true, fun A => .raw (vptr v0 (y5.toNat * 3))⟩ :: ⟨_, true, [], none, true, fun A => .raw (vptr v0 (y5.toNat * 3 + 1))⟩ :: ⟨_, true, [0], some (.vec B0 85 E_impl_Test ((y6.set y5.toNat (y4, (gtD y6 y5).2.1, (gtD y6 y5).2.2)).set y5.toNat ((gtD (y6.set y5.toNat (y4, (gtD y6 y5).2.1, (gtD y6 y5).2.2)) y5).1, (y4 + (1 : Int)), (gtD (y6.set y5.toNat (y4, (gtD y6 y5).2.1, (gtD y6 y5).2.2)) y5).2.2))), false, fun A => .any⟩ :: []) (by kernel_rfl) (by kernel_rfl) (Wf.mk' (by kernel_rfl) (UAll.cons ust_raw (UAll.cons ust_raw (UAll.cons ust_raw (UAll.cons ust_raw (UAll.cons ust_raw (UAll.cons ust_any (UAll.nil))))))) (by kernel_rfl) (by kernel_rfl)) hO hA ?_ ?_
   ·exact
     OblsR.p (fun A' R' w' ho hd => of_move ((ho.old 0 rfl).trans h0)) <|
     OblsR.p (fun A' R' w' ho hd => of_move ((ho.old 5 rfl).trans h5)) <|
     OblsR.p (fun A' R' w' ho hd => of_move ((ho.old 1 rfl).trans h1)) <|
     OblsR.p (fun A' R' w' ho hd => by have a0 : R' 19 = v0 := hd.g 0 rfl; have a1 : R' 20 = .int .i64 y5 := hd.g 1 rfl; exact of_indexAddr_vec (hO.ok 0 _ rfl).1 a0 a1 Try.underlying28 Try.sizeOf85 e12 rfl) <|
     OblsR.p (fun A' R' w' ho hd => by have a0 : R' 22 = (vptr v0 (y5.toNat * 3)) := hd.g 0 rfl; exact of_fieldAddr_vec (ho.rd 0 _ rfl rfl) (inR_ne e12) a0 ff_85_1 Try.sizeOf3 (by decide) rfl) <|
     OblsR.cons (OblR.took 0 _ _ rfl rfl rfl rfl rfl fun A' R' w' ho hd u hok hav hin hop hds => by have a0 : R' 23 = (vptr v0 (y5.toNat * 3 + 1)) := hd.g 0 rfl; have a1 : R' 21 = .int .i64 (y4 + (1 : Int)) := hd.g 1 rfl; obtain rfl := hin _ rfl; exact took_vstore (rep_int.eq a1) hok hav a0 e12 rfl fs_impl_Test_1 Try.sizeOf3 rfl) <|
     OblsR.nil
   intro done ρ σ A R w hdn hI
   replace h0 : R 0 = v0 := (hI.reg rfl).trans h0
   replace h1 : R 1 = .int .i64 (y4 + (1 : Int)) := (hI.reg rfl).trans h1
   replace h5 : R 5 = .int .i64 y5 := (hI.reg rfl).trans h5
   have z13 := hI.inivR 0 rfl
   have z14 := (hI.opnR hdn 6 5 rfl rfl rfl rfl rfl).trans z13
   replace hAA := hI.lowK hAA hA0 hN (hO.geK (⟨.inr (fun k h => .inr h), trivial⟩))
   replace hF : Ch (ownsB v0) w0 w := hF.tr hI.ch (hO.geK (⟨.inr (fun k h => .inr h), trivial⟩))
   replace hO : IniOK [ob v0 (.vec B0 85 E_impl_Test ((y6.set y5.toNat (y4, (gtD y6 y5).2.1, (gtD y6 y5).2.2)).set y5.toNat ((gtD (y6.set y5.toNat (y4, (gtD y6 y5).2.1, (gtD y6 y5).2.2)) y5).1, (y4 + (1 : Int)), (gtD (y6.set y5.toNat (y4, (gtD y6 y5).2.1, (gtD y6 y5).2.2)) y5).2.2)))] A w := hI.left hdn [(6, ob v0 (.vec B0 85 E_impl_Test ((y6.set y5.toNat (y4, (gtD y6 y5).2.1, (gtD y6 y5).2.2)).set y5.toNat ((gtD (y6.set y5.toNat (y4, (gtD y6 y5).2.1, (gtD y6 y5).2.2)) y5).1, (y4 + (1 : Int)), (gtD (y6.set y5.toNat (y4, (gtD y6 y5).2.1, (gtD y6 y5).2.2)) y5).2.2))))] ⟨rfl, rfl, z14, rfl, rfl, trivial⟩
   replace hA := hI.avok
   clear hI
   refine HT.seq ?_
   obtain ⟨e15, hr⟩ := ck_some hr
   refine HT.text (l := ⟨_, true, .raw (.int .i64 (y4 + (1 : Int)))⟩ :: ⟨_, true, .raw (.int .i64 ((y4 + (1 : Int)) + (1 : Int)))⟩ :: ⟨_, true, .raw (.int .i64 ((y4 + (1 : Int)) + (1 : Int)))⟩ :: []) (tl := []) (by kernel_rfl) (by kernel_rfl) (by kernel_rfl) ?_ ?_
   ·exact
     Obls.p (fun R' w' hw hs hd => of_move ((hs 1 rfl).trans h1)) <|
     Obls.p (fun R' w' hw hs hd => by have a0 : R' 24 = .int .i64 (y4 + (1 : Int)) := hd.g 0 rfl; exact of_add a0 rfl e15) <|
     Obls.p (fun R' w' hw hs hd => by have a0 : R' 25 = .int .i64 ((y4 + (1 : Int)) + (1 : Int)) := hd.g 0 rfl; exact of_assign a0) <|
     Obls.nil
   intro R w hw hs hF'
   replace h0 := (hs 0 rfl).trans h0
   replace h5 := (hs 5 rfl).trans h5
   have h1 : R 1 = .int .i64 ((y4 + (1 : Int)) + (1 : Int)) := hF' 2 _ _ rfl rfl rfl
   replace hO := hO.fr hw
   replace hA := hA.fr hw.size
   replace hF := hF.tr (hw.ch noB) fun _ h => False.elim h
   clear hs hF' hw
   refine seqR_nil ?_
   refine HT.seq ?_
   obtain ⟨e16, hr⟩ := ck_some hr
   obtain ⟨e17, hr⟩ := ck_some hr
   refine HT.textR [ob v0 (.vec B0 85 E_impl_Test ((y6.set y5.toNat (y4, (gtD y6 y5).2.1, (gtD y6 y5).2.2)).set y5.toNat ((gtD (y6.set y5.toNat (y4, (gtD y6 y5).2.1, (gtD y6 y5).2.2)) y5).1, (y4 + (1 : Int)), (gtD (y6.set y5.toNat (y4, (gtD y6 y5).2.1, (gtD y6 y5).2.2)) y5).2.2)))] (⟨_, true, [], none, true, fun A => .raw v0⟩ :: ⟨_, true, [], none, true, fun A => .raw (.int .i64 y5)⟩ :: ⟨_, true, [], none, true, fun A => .raw (.int .i64 ((y4 + (1 : Int)) + (1 : Int)))⟩ :: ⟨_, true, [], none, true, fun A => .raw (.int .i64 (((y4 + (1 : Int)) + (1 : Int)).tmod (3 : Int)))⟩ :: ⟨_, true, [], none, true, fun A => .raw (.bool ((((y4 + (1 : Int)) + (1 : Int)).tmod (3 : Int)) == (0 : Int)))⟩ :: ⟨_, true, [], none, true, fun A => .raw (vptr v0 (y5.toNat * 3))⟩ :: ⟨_, true, [], none, true, fun A => .raw (vptr v0 (y5.toNat * 3 + 2))⟩ :: ⟨_, true, [0], some (.vec B0 85 E_impl_Test (((y6.set y5.toNat (y4, (gtD y6 y5).2.1, (gtD y6 y5).2.2)).set y5.toNat ((gtD (y6.set y5.toNat (y4, (gtD y6 y5).2.1, (gtD y6 y5).2.2)) y5).1, (y4 + (1 : Int)), (gtD (y6.set y5.toNat (y4, (gtD y6 y5).2.1, (gtD y6 y5).2.2)) y5).2.2)).set y5.toNat ((gtD ((y6.set y5.toNat (y4, (gtD y6 y5).2.1, (gtD y6 y5).2.2)).set y5.toNat ((gtD (y6.set y5.toNat (y4, (gtD y6 y5).2.1, (gtD y6 y5).2.2)) y5).1, (y4 + (1 : Int)), (gtD (y6.set y5.toNat (y4, (gtD y6 y5).2.1, (gtD y6 y5).2.2)) y5).2.2)) y5).1, (gtD ((y6.set y5.toNat (y4, (gtD y6 y5).2.1, (gtD y6 y5).2.2)).set y5.toNat ((gtD (y6.set y5.toNat (y4, (gtD y6 y5).2.1, (gtD y6 y5).2.2)) y5).1, (y4 + (1 : Int)), (gtD (y6.set y5.toNat (y4, (gtD y6 y5).2.1, (gtD y6 y5).2.2)) y5).2.2)) y5).2.1, ((((y4 + (1 : Int)) + (1 : Int)).tmod (3 : Int)) == (0 : Int))))), false, fun A => .any⟩ :: []) (by kernel_rfl) (by kernel_rfl) (Wf.mk' (by kernel_rfl) (UAll.cons ust_raw (UAll.cons ust_raw (UAll.cons ust_raw (UAll.cons ust_raw (UAll.cons ust_raw (UAll.cons ust_raw (UAll.cons ust_raw (UAll.cons ust_any (UAll.nil))))))))) (by kernel_rfl) (by kernel_rfl)) hO hA ?_ ?_
   ·exact
     OblsR.p (fun A' R' w' ho hd => of_move ((ho.old 0 rfl).trans h0)) <|
     OblsR.p (fun A' R' w' ho hd => of_move ((ho.old 5 rfl).trans h5)) <|
     OblsR.p (fun A' R' w' ho hd => of_move ((ho.old 1 rfl).trans h1)) <|
     OblsR.p (fun A' R' w' ho hd => by have a0 : R' 28 = .int .i64 ((y4 + (1 : Int)) + (1 : Int)) := hd.g 0 rfl; exact of_rem a0 rfl e16) <|
     OblsR.p (fun A' R' w' ho hd => by have a0 : R' 29 = .int .i64 (((y4 + (1 : Int)) + (1 : Int)).tmod (3 : Int)) := hd.g 0 rfl; exact of_eql a0 rfl) <|
     OblsR.p (fun A' R' w' ho hd => by have a0 : R' 26 = v0 := hd.g 0 rfl; have a1 : R' 27 = .int .i64 y5 := hd.g 1 rfl; exact of_indexAddr_vec (hO.ok 0 _ rfl).1 a0 a1 Try.underlying28 Try.sizeOf85 e17 rfl) <|
     OblsR.p (fun A' R' w' ho hd => by have a0 : R' 31 = (vptr v0 (y5.toNat * 3)) := hd.g 0 rfl; exact of_fieldAddr_vec (ho.rd 0 _ rfl rfl) (inR_ne e17) a0 ff_85_2 Try.sizeOf4 (by decide) rfl) <|
     OblsR.cons (OblR.took 0 _ _ rfl rfl rfl rfl rfl fun A' R' w' ho hd u hok hav hin hop hds => by have a0 : R' 32 = (vptr v0 (y5.toNat * 3 + 2)) := hd.g 0 rfl; have a1 : R' 30 = .bool ((((y4 + (1 : Int)) + (1 : Int)).tmod (3 : Int)) == (0 : Int)) := hd.g 1 rfl; obtain rfl := hin _ rfl; exact took_vstore (rep_bool.eq a1) hok hav a0 e17 rfl fs_impl_Test_2 Try.sizeOf4 rfl) <|
     OblsR.nil
   intro done ρ σ A R w hdn hI
   replace h0 : R 0 = v0 := (hI.reg rfl).trans h0
   replace h1 : R 1 = .int .i64 ((y4 + (1 : Int)) + (1 : Int)) := (hI.reg rfl).trans h1
   replace h5 : R 5 = .int .i64 y5 := (hI.reg rfl).trans h5
   have z18 := hI.inivR 0 rfl
   have z19 := (hI.opnR hdn 8 7 rfl rfl rfl rfl rfl).trans z18
   replace hAA := hI.lowK hAA hA0 hN (hO.geK (⟨.inr (fun k h => .inr h), trivial⟩))
   replace hF : Ch (ownsB v0) w0 w := hF.tr hI.ch (hO.geK (⟨.inr (fun k h => .inr h), trivial⟩))
   replace hO : IniOK [ob v0 (.vec B0 85 E_impl_Test (((y6.set y5.toNat (y4, (gtD y6 y5).2.1, (gtD y6 y5).2.2)).set y5.toNat ((gtD (y6.set y5.toNat (y4, (gtD y6 y5).2.1, (gtD y6 y5).2.2)) y5).1, (y4 + (1 : Int)), (gtD (y6.set y5.toNat (y4, (gtD y6 y5).2.1, (gtD y6 y5).2.2)) y5).2.2)).set y5.toNat ((gtD ((y6.set y5.toNat (y4, (gtD y6 y5).2.1, (gtD y6 y5).2.2)).set y5.toNat ((gtD (y6.set y5.toNat (y4, (gtD y6 y5).2.1, (gtD y6 y5).2.2)) y5).1, (y4 + (1 : Int)), (gtD (y6.set y5.toNat (y4, (gtD y6 y5).2.1, (gtD y6 y5).2.2)) y5).2.2)) y5).1, (gtD ((y6.set y5.toNat (y4, (gtD y6 y5).2.1, (gtD y6 y5).2.2)).set y5.toNat ((gtD (y6.set y5.toNat (y4, (gtD y6 y5).2.1, (gtD y6 y5).2.2)) y5).1, (y4 + (1 : Int)), (gtD (y6.set y5.toNat (y4, (gtD y6 y5).2.1, (gtD y6 y5).2.2)) y5).2.2)) y5).2.1, ((((y4 + (1 : Int)) + (1 : Int)).tmod (3 : Int)) == (0 : Int)))))] A w := hI.left hdn [(8, ob v0 (.vec B0 85 E_impl_Test (((y6.set y5.toNat (y4, (gtD y6 y5).2.1, (gtD y6 y5).2.2)).set y5.toNat ((gtD (y6.set y5.toNat (y4, (gtD y6 y5).2.1, (gtD y6 y5).2.2)) y5).1, (y4 + (1 : Int)), (gtD (y6.set y5.toNat (y4, (gtD y6 y5).2.1, (gtD y6 y5).2.2)) y5).2.2)).set y5.toNat ((gtD ((y6.set y5.toNat (y4, (gtD y6 y5).2.1, (gtD y6 y5).2.2)).set y5.toNat ((gtD (y6.set y5.toNat (y4, (gtD y6 y5).2.1, (gtD y6 y5).2.2)) y5).1, (y4 + (1 : Int)), (gtD (y6.set y5.toNat (y4, (gtD y6 y5).2.1, (gtD y6 y5).2.2)) y5).2.2)) y5).1, (gtD ((y6.set y5.toNat (y4, (gtD y6 y5).2.1, (gtD y6 y5).2.2)).set y5.toNat ((gtD (y6.set y5.toNat (y4, (gtD y6 y5).2.1, (gtD y6 y5).2.2)) y5).1, (y4 + (1 : Int)), (gtD (y6.set y5.toNat (y4, (gtD y6 y5).2.1, (gtD y6 y5).2.2)) y5).2.2)) y5).2.1, ((((y4 + (1 : Int)) + (1 : Int)).tmod (3 : Int)) == (0 : Int))))))] ⟨rfl, rfl, z19, rfl, rfl, trivial⟩
   replace hA := hI.avok
   clear hI
   obtain ⟨e20, hr⟩ := ck_some hr
   refine HT.text (l := ⟨_, true, .raw (.int .i64 ((y4 + (1 : Int)) + (1 : Int)))⟩ :: ⟨_, true, .raw (.int .i64 (((y4 + (1 : Int)) + (1 : Int)) + (1 : Int)))⟩ :: ⟨_, true, .raw (.int .i64 (((y4 + (1 : Int)) + (1 : Int)) + (1 : Int)))⟩ :: []) (tl := []) (by kernel_rfl) (by kernel_rfl) (by kernel_rfl) ?_ ?_
   ·exact
     Obls.p (fun R' w' hw hs hd => of_move ((hs 1 rfl).trans h1)) <|
     Obls.p (fun R' w' hw hs hd => by have a0 : R' 33 = .int .i64 ((y4 + (1 : Int)) + (1 : Int)) := hd.g 0 rfl; exact of_add a0 rfl e20) <|
     Obls.p (fun R' w' hw hs hd => by have a0 : R' 34 = .int .i64 (((y4 + (1 : Int)) + (1 : Int)) + (1 : Int)) := hd.g 0 rfl; exact of_assign a0) <|
     Obls.nil
   intro R w hw hs hF'
   replace h0 := (hs 0 rfl).trans h0
   replace h5 := (hs 5 rfl).trans h5
   have h1 : R 1 = .int .i64 (((y4 + (1 : Int)) + (1 : Int)) + (1 : Int)) := hF' 2 _ _ rfl rfl rfl
   replace hO := hO.fr hw
   replace hA := hA.fr hw.size
   replace hF := hF.tr (hw.ch noB) fun _ h => False.elim h
   clear hs hF' hw
   refine seqR_nil ?_
   obtain ⟨e21, hr⟩ := ck_some hr
   refine HT.text (l := ⟨_, true, .raw (.int .i64 y5)⟩ :: ⟨_, true, .raw (.int .i64 (y5 + (1 : Int)))⟩ :: ⟨_, true, .raw (.int .i64 (y5 + (1 : Int)))⟩ :: []) (tl := []) (by kernel_rfl) (by kernel_rfl) (by kernel_rfl) ?_ ?_
   ·exact
     Obls.p (fun R' w' hw hs hd => of_move ((hs 5 rfl).trans h5)) <|
     Obls.p (fun R' w' hw hs hd => by have a0 : R' 10 = .int .i64 y5 := hd.g 0 rfl; exact of_add a0 rfl e21) <|
     Obls.p (fun R' w' hw hs hd => by have a0 : R' 11 = .int .i64 (y5 + (1 : Int)) := hd.g 0 rfl; exact of_assign a0) <|
     Obls.nil
   intro R w hw hs hF'
   replace h0 := (hs 0 rfl).trans h0
   replace h1 := (hs 1 rfl).trans h1
   have h5 : R 5 = .int .i64 (y5 + (1 : Int)) := hF' 2 _ _ rfl rfl rfl
   replace hO := hO.fr hw
   replace hA := hA.fr hw.size
   replace hF := hF.tr (hw.ch noB) fun _ h => False.elim h
   clear hs hF' hw
   refine seqR_nil ?_
   exact Exists.intro k (And.intro (Nat.lt_succ_self k) ⟨_, _, _, _, hr, hA, hF, hAA, hO, h0, h1, h5⟩)
  ·have hr := cnd_f c7 hr
   refine HT.exit ?_
   obtain rfl := Option.some.inj hr
   exact Exists.intro _ ⟨_, rfl, hA, hF, hAA, hO, h1⟩
 rintro R w ⟨A, s3, es, hA, hF, hAA, hO, h1⟩
 obtain rfl := es.symm
 refine HT.seq ?_
 refine HT.text (l := ⟨_, true, .raw (.int .i64 s3.1)⟩ :: ⟨_, true, .raw (.int .i64 s3.1)⟩ :: []) (tl := []) (by kernel_rfl) (by kernel_rfl) (by kernel_rfl) ?_ ?_
 ·exact
   Obls.p (fun R' w' hw hs hd => of_move ((hs 1 rfl).trans h1)) <|
   Obls.p (fun R' w' hw hs hd => by have a0 : R' 35 = .int .i64 s3.1 := hd.g 0 rfl; exact of_assign a0) <|
   Obls.nil
 intro R w hw hs hF'
 have h4 : R 4 = .int .i64 s3.1 := hF' 1 _ _ rfl rfl rfl
 replace hO := hO.fr hw
 replace hA := hA.fr hw.size
 replace hF := hF.tr (hw.ch noB) fun _ h => False.elim h
 clear hs hF' hw
 refine seqR_nil ?_
 refine HT.ret ?_
 obtain rfl := Option.some.inj hr
 exact ⟨.inr rfl, [R 4], ⟨rfl, trivial⟩, h4, Vec.flat (hO.ok 0 _ rfl).1 (fun _ _ _ _ _ h => h), hF⟩
end Go.Proofs.Ytjfhlhhobpdneaa
