/- Printed by dec.py: plain functions and the proofs that the code computes them. No statement of the seat is proved here. -/
import Derived.Test.YtkebpojbbfnehaaGreatE4
namespace Go.Proofs.YtkebpojbbfnehaaGreat
open Go.RowKit
set_option linter.unusedVariables false
set_option maxRecDepth 100000
set_option maxHeartbeats 4000000
def M_spec_MinOverlap (fu : Nat) (p0 : Int) (p1 : Int) (p2 : Int) : Option Int :=
 cl true (M_spec_l5Good fu p0 p1 p2) fun x1 =>
 bif (!x1) then (
  some (-1 : Int)
 ) else (
  ck (i64B (p0 + p1)) <|
  ck (i64B (p2 * (p0 + p1))) <|
  ck (i64B ((p2 * (p0 + p1)) + (999 : Int))) <|
  ck (i64B (((p2 * (p0 + p1)) + (999 : Int)) + p2)) <|
  ck (i64B ((1000 : Int) + p2)) <|
  ck (((1000 : Int) + p2) != 0) <|
  ck (i64B ((((p2 * (p0 + p1)) + (999 : Int)) + p2).tdiv ((1000 : Int) + p2))) <|
  some ((((p2 * (p0 + p1)) + (999 : Int)) + p2).tdiv ((1000 : Int) + p2))
 )
theorem M_spec_MinOverlap_ok {fu : Nat} {A : Av} {p0 : Int} {p1 : Int} {p2 : Int} {r : Int} (hr : M_spec_MinOverlap fu p0 p1 p2 = some r) {w : World} {v0 : Value} {v1 : Value} {v2 : Value} (hA : AvOK A w) (h0 : v0 = .int .i64 p0) (h1 : v1 = .int .i64 p1) (h2 : v2 = .int .i64 p2) :
  Calls Tryz.prog 17 #[v0, v1, v2] w fun e w' => ∃ v, e = .returned v ∧ (v = .int .i64 r ∧ Fr w w') := by
 unfold M_spec_MinOverlap at hr
 obtain ⟨w0, hw0⟩ : ∃ w0, w0 = w := ⟨_, rfl⟩
 have hF : Fr w0 w := hw0 ▸ Fr.refl _
 rw [show Fr w = Fr w0 from hw0 ▸ rfl]
 clear hw0
 refine calls_of_HT2 [.tmp 6] Tryz.func17 Tryz.ntmps17 (by decide) rfl rfl (Nat.le_of_ble_eq_true rfl) ?_
 intro R hR
 replace h0 : R 0 = .int .i64 p0 := (hR 0 _ rfl).trans h0
 replace h1 : R 1 = .int .i64 p1 := (hR 1 _ rfl).trans h1
 replace h2 : R 2 = .int .i64 p2 := (hR 2 _ rfl).trans h2
 clear hR
 refine HT.seq ?_
 refine HT.text (l := ⟨_, true, .raw (.int .i64 (0 : Int))⟩ :: []) (tl := []) (by kernel_rfl) (by kernel_rfl) (by kernel_rfl) ?_ ?_
 ·exact
   Obls.p (fun R' w' hw hs hd => of_assign rfl) <|
   Obls.nil
 intro R w hw hs hF'
 replace h0 := (hs 0 rfl).trans h0
 replace h1 := (hs 1 rfl).trans h1
 replace h2 := (hs 2 rfl).trans h2
 replace hA := hA.fr hw.size
 replace hF := hF.trans hw
 clear hs hF' hw
 refine seqR_nil ?_
 refine HT.seq ?_
 refine HT.seq ?_
 obtain ⟨x1, q2, hr⟩ := cl_some hr
 refine HT.text (l := ⟨_, true, .raw (.int .i64 p0)⟩ :: ⟨_, true, .raw (.int .i64 p1)⟩ :: ⟨_, true, .raw (.int .i64 p2)⟩ :: ⟨_, true, .raw (.bool x1)⟩ :: ⟨_, true, .raw (.bool (!x1))⟩ :: []) (tl := []) (by kernel_rfl) (by kernel_rfl) (by kernel_rfl) ?_ ?_
 ·exact
   Obls.p (fun R' w' hw hs hd => of_move ((hs 0 rfl).trans h0)) <|
   Obls.p (fun R' w' hw hs hd => of_move ((hs 1 rfl).trans h1)) <|
   Obls.p (fun R' w' hw hs hd => of_move ((hs 2 rfl).trans h2)) <|
   Obls.p (fun R' w' hw hs hd => by have a0 : R' 7 = .int .i64 p0 := hd.g 0 rfl; have a1 : R' 8 = .int .i64 p1 := hd.g 1 rfl; have a2 : R' 9 = .int .i64 p2 := hd.g 2 rfl; exact of_call Tryz.call50 (M_spec_l5Good_ok (q2 rfl) (hA.fr hw.size) a0 a1 a2)) <|
   Obls.p (fun R' w' hw hs hd => by have a0 : R' 10 = .bool x1 := hd.g 0 rfl; exact of_not a0) <|
   Obls.nil
 intro R w hw hs hF'
 replace h0 := (hs 0 rfl).trans h0
 replace h1 := (hs 1 rfl).trans h1
 replace h2 := (hs 2 rfl).trans h2
 have h11 : R 11 = .bool (!x1) := hF' 4 _ _ rfl rfl rfl
 replace hA := hA.fr hw.size
 replace hF := hF.trans hw
 clear hs hF' hw
 refine seqR_nil ?_
 refine HT.cond (!x1) h11 (fun c3 => ?_) (fun c3 => ?_)
 ·have hr := cnd_t c3 hr
  refine HT.seq ?_
  refine HT.text (l := ⟨_, true, .raw (.int .i64 (-1 : Int))⟩ :: []) (tl := []) (by kernel_rfl) (by kernel_rfl) (by kernel_rfl) ?_ ?_
  ·exact
    Obls.p (fun R' w' hw hs hd => of_assign rfl) <|
    Obls.nil
  intro R w hw hs hF'
  have h6 : R 6 = .int .i64 (-1 : Int) := hF' 0 _ _ rfl rfl rfl
  replace hA := hA.fr hw.size
  replace hF := hF.trans hw
  clear hs hF' hw
  refine seqR_nil ?_
  refine HT.ret ?_
  obtain rfl := Option.some.inj hr
  exact ⟨.inr rfl, [R 6], ⟨rfl, trivial⟩, h6, hF⟩
 ·have hr := cnd_f c3 hr
  refine HT.skip ?_
  refine HT.seq ?_
  obtain ⟨e4, hr⟩ := ck_some hr
  obtain ⟨e5, hr⟩ := ck_some hr
  obtain ⟨e6, hr⟩ := ck_some hr
  obtain ⟨e7, hr⟩ := ck_some hr
  obtain ⟨e8, hr⟩ := ck_some hr
  obtain ⟨e9, hr⟩ := ck_some hr
  obtain ⟨e10, hr⟩ := ck_some hr
  refine HT.text (l := ⟨_, true, .raw (.int .i64 p2)⟩ :: ⟨_, true, .raw (.int .i64 p0)⟩ :: ⟨_, true, .raw (.int .i64 p1)⟩ :: ⟨_, true, .raw (.int .i64 (p0 + p1))⟩ :: ⟨_, true, .raw (.int .i64 (p2 * (p0 + p1)))⟩ :: ⟨_, true, .raw (.int .i64 ((p2 * (p0 + p1)) + (999 : Int)))⟩ :: ⟨_, true, .raw (.int .i64 p2)⟩ :: ⟨_, true, .raw (.int .i64 (((p2 * (p0 + p1)) + (999 : Int)) + p2))⟩ :: ⟨_, true, .raw (.int .i64 p2)⟩ :: ⟨_, true, .raw (.int .i64 ((1000 : Int) + p2))⟩ :: ⟨_, true, .raw (.int .i64 ((((p2 * (p0 + p1)) + (999 : Int)) + p2).tdiv ((1000 : Int) + p2)))⟩ :: ⟨_, true, .raw (.int .i64 ((((p2 * (p0 + p1)) + (999 : Int)) + p2).tdiv ((1000 : Int) + p2)))⟩ :: []) (tl := []) (by kernel_rfl) (by kernel_rfl) (by kernel_rfl) ?_ ?_
  ·exact
    Obls.p (fun R' w' hw hs hd => of_move ((hs 2 rfl).trans h2)) <|
    Obls.p (fun R' w' hw hs hd => of_move ((hs 0 rfl).trans h0)) <|
    Obls.p (fun R' w' hw hs hd => of_move ((hs 1 rfl).trans h1)) <|
    Obls.p (fun R' w' hw hs hd => by have a0 : R' 13 = .int .i64 p0 := hd.g 0 rfl; have a1 : R' 14 = .int .i64 p1 := hd.g 1 rfl; exact of_add a0 a1 e4) <|
    Obls.p (fun R' w' hw hs hd => by have a0 : R' 12 = .int .i64 p2 := hd.g 0 rfl; have a1 : R' 15 = .int .i64 (p0 + p1) := hd.g 1 rfl; exact of_mul a0 a1 e5) <|
    Obls.p (fun R' w' hw hs hd => by have a0 : R' 16 = .int .i64 (p2 * (p0 + p1)) := hd.g 0 rfl; exact of_add a0 rfl e6) <|
    Obls.p (fun R' w' hw hs hd => of_move ((hs 2 rfl).trans h2)) <|
    Obls.p (fun R' w' hw hs hd => by have a0 : R' 17 = .int .i64 ((p2 * (p0 + p1)) + (999 : Int)) := hd.g 0 rfl; have a1 : R' 18 = .int .i64 p2 := hd.g 1 rfl; exact of_add a0 a1 e7) <|
    Obls.p (fun R' w' hw hs hd => of_move ((hs 2 rfl).trans h2)) <|
    Obls.p (fun R' w' hw hs hd => by have a1 : R' 20 = .int .i64 p2 := hd.g 0 rfl; exact of_add rfl a1 e8) <|
    Obls.p (fun R' w' hw hs hd => by have a0 : R' 19 = .int .i64 (((p2 * (p0 + p1)) + (999 : Int)) + p2) := hd.g 0 rfl; have a1 : R' 21 = .int .i64 ((1000 : Int) + p2) := hd.g 1 rfl; exact of_quo a0 a1 e9 e10) <|
    Obls.p (fun R' w' hw hs hd => by have a0 : R' 22 = .int .i64 ((((p2 * (p0 + p1)) + (999 : Int)) + p2).tdiv ((1000 : Int) + p2)) := hd.g 0 rfl; exact of_assign a0) <|
    Obls.nil
  intro R w hw hs hF'
  have h6 : R 6 = .int .i64 ((((p2 * (p0 + p1)) + (999 : Int)) + p2).tdiv ((1000 : Int) + p2)) := hF' 11 _ _ rfl rfl rfl
  replace hA := hA.fr hw.size
  replace hF := hF.trans hw
  clear hs hF' hw
  refine seqR_nil ?_
  refine HT.ret ?_
  obtain rfl := Option.some.inj hr
  exact ⟨.inr rfl, [R 6], ⟨rfl, trivial⟩, h6, hF⟩
def M_laws_FnPrefixes (fu : Nat) (p0 : List Int) : Option Bool :=
 cl true (M_laws_big fu p0) fun x1 =>
 bif x1 then (
  some true
 ) else (
  cl true (M_spec_DrawSharePrefix fu p0) fun x4 =>
  cl true (M_impl_SharePrefix fu x4.1 x4.2.1 x4.2.2.1 x4.2.2.2) fun x9 =>
  cl true (M_spec_SharePrefix fu x4.1 x4.2.1 x4.2.2.1 x4.2.2.2) fun x11 =>
  cl (true && ((x9 != x11) == false)) (M_impl_PrefixTokens fu x4.1 x4.2.1 x4.2.2.2) fun x13 =>
  cl (true && ((x9 != x11) == false)) (M_spec_PrefixTokens fu x4.1 x4.2.1 x4.2.2.2) fun x15 =>
  cl (true && ((x9 != x11) == false)) (M_spec_EqualTokens fu x13 x15) fun x17 =>
  bd ((x9 != x11) || (!x17)) fun x19 =>
  bif x19 then (
   some false
  ) else (
   cl true (M_impl_MeetsJaccard fu x4.2.1 x4.2.2.1 x4.2.2.2) fun x22 =>
   cl true (M_spec_MeetsJaccard fu x4.2.1 x4.2.2.1 x4.2.2.2) fun x24 =>
   bif (x22 != x24) then (
    some false
   ) else (
    cl true (M_impl_LengthBounds fu (x4.2.1.length : Int) x4.2.2.2) fun x27 =>
    cl true (M_spec_LengthBounds fu (x4.2.1.length : Int) x4.2.2.2) fun x29 =>
    cl true (M_impl_MinOverlap fu (x4.2.1.length : Int) (x4.2.2.1.length : Int) x4.2.2.2) fun x31 =>
    bd ((x27.1 != x29.1) || (x27.2 != x29.2)) fun x33 =>
    cl (true && (x33 == false)) (M_spec_MinOverlap fu (x4.2.1.length : Int) (x4.2.2.1.length : Int) x4.2.2.2) fun x35 =>
    bd (x33 || (x31 != x35)) fun x37 =>
    cl (true && (x37 == false)) (M_impl_PrefixLength fu (x4.2.1.length : Int) x4.2.2.2) fun x39 =>
    cl (true && (x37 == false)) (M_spec_PrefixLength fu (x4.2.1.length : Int) x4.2.2.2) fun x41 =>
    bd (x37 || (x39 != x41)) fun x43 =>
    bif x43 then (
     some false
    ) else (
     cl true (M_spec_IsTokenSet fu x4.2.1) fun x46 =>
     cl (true && ((!x46) == false)) (M_spec_IsTokenSet fu x4.2.2.1) fun x48 =>
     bd ((!x46) || (!x48)) fun x50 =>
     bd (x50 || (decide (x4.2.2.2 < (1 : Int)))) fun x52 =>
     bd (x52 || (decide ((1000 : Int) < x4.2.2.2))) fun x54 =>
     bif x54 then (
      some (!x22)
     ) else (
      cl true (M_spec_CommonTokens fu x4.2.1 x4.2.2.1) fun x57 =>
      bd ((decide ((x4.2.2.1.length : Int) < x27.1)) || (decide (x27.2 < (x4.2.2.1.length : Int)))) fun x59 =>
      bd (x22 && x59) fun x61 =>
      bd ((x22 != (decide (x31 ≤ (x57.length : Int)))) || x61) fun x63 =>
      bif x63 then (
       some false
      ) else (
       cl true (M_impl_PrefixTokens fu x4.1 x4.2.1 x4.2.2.2) fun x66 =>
       cl true (M_spec_PrefixLength fu (x4.2.1.length : Int) x4.2.2.2) fun x68 =>
       bif ((x66.length : Int) != x68) then (
        some false
       ) else (
        ck (!(true && ((!x22) == false)) || i64B ((x4.2.1.length : Int) + (x4.2.2.1.length : Int))) <|
        bd ((!x22) || (((x4.2.1.length : Int) + (x4.2.2.1.length : Int)) == (0 : Int))) fun x72 =>
        bd (x72 || x9) fun x74 =>
        some x74
       )
      )
     )
    )
   )
  )
 )
theorem M_laws_FnPrefixes_ok {fu : Nat} {A : Av} {p0 : List Int} {r : Bool} (hr : M_laws_FnPrefixes fu p0 = some r) {w : World} {v0 : Value} (hA : AvOK A w) (h0 : Rep (eSl (eInt .u8)) A w v0 p0) :
  Calls Tryz.prog 3 #[v0] w fun e w' => ∃ v, e = .returned v ∧ (v = .bool r ∧ Fr w w') := by
 unfold M_laws_FnPrefixes at hr
 obtain ⟨w0, hw0⟩ : ∃ w0, w0 = w := ⟨_, rfl⟩
 have hF : Fr w0 w := hw0 ▸ Fr.refl _
 rw [show Fr w = Fr w0 from hw0 ▸ rfl]
 clear hw0
 refine calls_of_HT2 [.tmp 2] Tryz.func3 Tryz.ntmps3 (by decide) rfl rfl (Nat.le_of_ble_eq_true rfl) ?_
 intro R hR
 have f_v0 := h0
 replace h0 : R 0 = v0 := hR 0 _ rfl
 clear hR
 refine HT.seq ?_
 refine HT.text (l := ⟨_, true, .raw (.bool false)⟩ :: []) (tl := []) (by kernel_rfl) (by kernel_rfl) (by kernel_rfl) ?_ ?_
 ·exact
   Obls.p (fun R' w' hw hs hd => of_assign rfl) <|
   Obls.nil
 intro R w hw hs hF'
 replace h0 := (hs 0 rfl).trans h0
 replace f_v0 := f_v0.fr hw
 replace hA := hA.fr hw.size
 replace hF := hF.trans hw
 clear hs hF' hw
 refine seqR_nil ?_
 refine HT.seq ?_
 refine HT.seq ?_
 obtain ⟨x1, q2, hr⟩ := cl_some hr
 refine HT.text (l := ⟨_, true, .raw v0⟩ :: ⟨_, true, .raw (.bool x1)⟩ :: []) (tl := []) (by kernel_rfl) (by kernel_rfl) (by kernel_rfl) ?_ ?_
 ·exact
   Obls.p (fun R' w' hw hs hd => of_move ((hs 0 rfl).trans h0)) <|
   Obls.p (fun R' w' hw hs hd => by have a0 : R' 15 = v0 := hd.g 0 rfl; have ra0 := (f_v0.fr hw).eq a0; exact of_call Tryz.call5 (M_laws_big_ok (q2 rfl) (hA.fr hw.size) ra0)) <|
   Obls.nil
 intro R w hw hs hF'
 replace h0 := (hs 0 rfl).trans h0
 have h16 : R 16 = .bool x1 := hF' 1 _ _ rfl rfl rfl
 replace f_v0 := f_v0.fr hw
 replace hA := hA.fr hw.size
 replace hF := hF.trans hw
 clear hs hF' hw
 refine seqR_nil ?_
 refine HT.cond x1 h16 (fun c3 => ?_) (fun c3 => ?_)
 ·have hr := cnd_t c3 hr
  refine HT.seq ?_
  refine HT.text (l := ⟨_, true, .raw (.bool true)⟩ :: []) (tl := []) (by kernel_rfl) (by kernel_rfl) (by kernel_rfl) ?_ ?_
  ·exact
    Obls.p (fun R' w' hw hs hd => of_assign rfl) <|
    Obls.nil
  intro R w hw hs hF'
  have h2 : R 2 = .bool true := hF' 0 _ _ rfl rfl rfl
  replace hA := hA.fr hw.size
  replace hF := hF.trans hw
  clear hs hF' hw
  refine seqR_nil ?_
  refine HT.ret ?_
  obtain rfl := Option.some.inj hr
  exact ⟨.inr rfl, [R 2], ⟨rfl, trivial⟩, h2, hF⟩
 ·have hr := cnd_f c3 hr
  refine HT.skip ?_
  refine HT.seq ?_
  obtain ⟨x4, q5, hr⟩ := cl_some hr
  refine HT.text (l := ⟨_, true, .raw v0⟩ :: ⟨_, true, .tup4 (.rep (eSl E_impl_TokenCount) A x4.1) (.rep (eSl eStr) A x4.2.1) (.rep (eSl eStr) A x4.2.2.1) (.raw (.int .i64 x4.2.2.2))⟩ :: ⟨_, true, .tup4 (.rep (eSl E_impl_TokenCount) A x4.1) (.rep (eSl eStr) A x4.2.1) (.rep (eSl eStr) A x4.2.2.1) (.raw (.int .i64 x4.2.2.2))⟩ :: ⟨_, true, .rep (eSl E_impl_TokenCount) A x4.1⟩ :: ⟨_, true, .rep (eSl eStr) A x4.2.1⟩ :: ⟨_, true, .rep (eSl eStr) A x4.2.2.1⟩ :: ⟨_, true, .raw (.int .i64 x4.2.2.2)⟩ :: ⟨_, true, .rep (eSl E_impl_TokenCount) A x4.1⟩ :: ⟨_, true, .rep (eSl eStr) A x4.2.1⟩ :: ⟨_, true, .rep (eSl eStr) A x4.2.2.1⟩ :: ⟨_, true, .raw (.int .i64 x4.2.2.2)⟩ :: []) (tl := []) (by kernel_rfl) (by kernel_rfl) (by kernel_rfl) ?_ ?_
  ·exact
    Obls.p (fun R' w' hw hs hd => of_move ((hs 0 rfl).trans h0)) <|
    Obls.p (fun R' w' hw hs hd => by have a0 : R' 18 = v0 := hd.g 0 rfl; have ra0 := (f_v0.fr hw).eq a0; exact of_call Tryz.call6 (M_spec_DrawSharePrefix_ok (q5 rfl) (hA.fr hw.size) ra0)) <|
    Obls.p (fun R' w' hw hs hd => by have a0 : Fact.ok (.tup4 (.rep (eSl E_impl_TokenCount) A x4.1) (.rep (eSl eStr) A x4.2.1) (.rep (eSl eStr) A x4.2.2.1) (.raw (.int .i64 x4.2.2.2))) (R' 19) w' := hd.g 0 rfl; exact of_move a0) <|
    Obls.p (fun R' w' hw hs hd => by have a0 : Fact.ok (.tup4 (.rep (eSl E_impl_TokenCount) A x4.1) (.rep (eSl eStr) A x4.2.1) (.rep (eSl eStr) A x4.2.2.1) (.raw (.int .i64 x4.2.2.2))) (R' 17) w' := hd.g 0 rfl; exact of_extract4_0 a0) <|
    Obls.p (fun R' w' hw hs hd => by have a0 : Fact.ok (.tup4 (.rep (eSl E_impl_TokenCount) A x4.1) (.rep (eSl eStr) A x4.2.1) (.rep (eSl eStr) A x4.2.2.1) (.raw (.int .i64 x4.2.2.2))) (R' 17) w' := hd.g 0 rfl; exact of_extract4_1 a0) <|
    Obls.p (fun R' w' hw hs hd => by have a0 : Fact.ok (.tup4 (.rep (eSl E_impl_TokenCount) A x4.1) (.rep (eSl eStr) A x4.2.1) (.rep (eSl eStr) A x4.2.2.1) (.raw (.int .i64 x4.2.2.2))) (R' 17) w' := hd.g 0 rfl; exact of_extract4_2 a0) <|
    Obls.p (fun R' w' hw hs hd => by have a0 : Fact.ok (.tup4 (.rep (eSl E_impl_TokenCount) A x4.1) (.rep (eSl eStr) A x4.2.1) (.rep (eSl eStr) A x4.2.2.1) (.raw (.int .i64 x4.2.2.2))) (R' 17) w' := hd.g 0 rfl; exact of_extract4_3 a0) <|
    Obls.p (fun R' w' hw hs hd => by have a0 : Rep (eSl E_impl_TokenCount) A w' (R' 20) x4.1 := hd.g 0 rfl; exact of_assign a0) <|
    Obls.p (fun R' w' hw hs hd => by have a0 : Rep (eSl eStr) A w' (R' 21) x4.2.1 := hd.g 0 rfl; exact of_assign a0) <|
    Obls.p (fun R' w' hw hs hd => by have a0 : Rep (eSl eStr) A w' (R' 22) x4.2.2.1 := hd.g 0 rfl; exact of_assign a0) <|
    Obls.p (fun R' w' hw hs hd => by have a0 : R' 23 = .int .i64 x4.2.2.2 := hd.g 0 rfl; exact of_assign a0) <|
    Obls.nil
  intro R w hw hs hF'
  obtain ⟨u6, h3, f_u6⟩ : ∃ u, R 3 = u ∧ Rep (eSl E_impl_TokenCount) A w u x4.1 := ⟨_, rfl, hF' 7 _ _ rfl rfl rfl⟩
  obtain ⟨u7, h4, f_u7⟩ : ∃ u, R 4 = u ∧ Rep (eSl eStr) A w u x4.2.1 := ⟨_, rfl, hF' 8 _ _ rfl rfl rfl⟩
  obtain ⟨u8, h5, f_u8⟩ : ∃ u, R 5 = u ∧ Rep (eSl eStr) A w u x4.2.2.1 := ⟨_, rfl, hF' 9 _ _ rfl rfl rfl⟩
  have h6 : R 6 = .int .i64 x4.2.2.2 := hF' 10 _ _ rfl rfl rfl
  replace hA := hA.fr hw.size
  replace hF := hF.trans hw
  clear hs hF' hw
  refine seqR_nil ?_
  refine HT.seq ?_
  obtain ⟨x9, q10, hr⟩ := cl_some hr
  refine HT.text (l := ⟨_, true, .raw u6⟩ :: ⟨_, true, .raw u7⟩ :: ⟨_, true, .raw u8⟩ :: ⟨_, true, .raw (.int .i64 x4.2.2.2)⟩ :: ⟨_, true, .raw (.bool x9)⟩ :: ⟨_, true, .raw (.bool x9)⟩ :: []) (tl := []) (by kernel_rfl) (by kernel_rfl) (by kernel_rfl) ?_ ?_
  ·exact
    Obls.p (fun R' w' hw hs hd => of_move ((hs 3 rfl).trans h3)) <|
    Obls.p (fun R' w' hw hs hd => of_move ((hs 4 rfl).trans h4)) <|
    Obls.p (fun R' w' hw hs hd => of_move ((hs 5 rfl).trans h5)) <|
    Obls.p (fun R' w' hw hs hd => of_move ((hs 6 rfl).trans h6)) <|
    Obls.p (fun R' w' hw hs hd => by have a0 : R' 24 = u6 := hd.g 0 rfl; have ra0 := (f_u6.fr hw).eq a0; have a1 : R' 25 = u7 := hd.g 1 rfl; have ra1 := (f_u7.fr hw).eq a1; have a2 : R' 26 = u8 := hd.g 2 rfl; have ra2 := (f_u8.fr hw).eq a2; have a3 : R' 27 = .int .i64 x4.2.2.2 := hd.g 3 rfl; exact of_call Tryz.call7 (M_impl_SharePrefix_ok (q10 rfl) (hA.fr hw.size) ra0 ra1 ra2 a3)) <|
    Obls.p (fun R' w' hw hs hd => by have a0 : R' 28 = .bool x9 := hd.g 0 rfl; exact of_assign a0) <|
    Obls.nil
  intro R w hw hs hF'
  replace h3 := (hs 3 rfl).trans h3
  replace h4 := (hs 4 rfl).trans h4
  replace h5 := (hs 5 rfl).trans h5
  replace h6 := (hs 6 rfl).trans h6
  have h7 : R 7 = .bool x9 := hF' 5 _ _ rfl rfl rfl
  replace f_u6 := f_u6.fr hw
  replace f_u7 := f_u7.fr hw
  replace f_u8 := f_u8.fr hw
  replace hA := hA.fr hw.size
  replace hF := hF.trans hw
  clear hs hF' hw
  refine seqR_nil ?_
  refine HT.seq ?_
  refine HT.seq ?_
  obtain ⟨x11, q12, hr⟩ := cl_some hr
  obtain ⟨x13, q14, hr⟩ := cl_some hr
  obtain ⟨x15, q16, hr⟩ := cl_some hr
  obtain ⟨x17, q18, hr⟩ := cl_some hr
  obtain ⟨x19, q20, hr⟩ := bd_some hr
  refine HT.text (l := ⟨_, true, .raw (.bool x9)⟩ :: ⟨_, true, .raw u6⟩ :: ⟨_, true, .raw u7⟩ :: ⟨_, true, .raw u8⟩ :: ⟨_, true, .raw (.int .i64 x4.2.2.2)⟩ :: ⟨_, true, .raw (.bool x11)⟩ :: ⟨_, true, .raw (.bool (x9 != x11))⟩ :: ⟨_, true, .raw (.bool (x9 != x11))⟩ :: ⟨_, (true && ((x9 != x11) == false)), .raw u6⟩ :: ⟨_, (true && ((x9 != x11) == false)), .raw u7⟩ :: ⟨_, (true && ((x9 != x11) == false)), .raw (.int .i64 x4.2.2.2)⟩ :: ⟨_, (true && ((x9 != x11) == false)), .rep (eSl eStr) A x13⟩ :: ⟨_, (true && ((x9 != x11) == false)), .raw u6⟩ :: ⟨_, (true && ((x9 != x11) == false)), .raw u7⟩ :: ⟨_, (true && ((x9 != x11) == false)), .raw (.int .i64 x4.2.2.2)⟩ :: ⟨_, (true && ((x9 != x11) == false)), .rep (eSl eStr) A x15⟩ :: ⟨_, (true && ((x9 != x11) == false)), .raw (.bool x17)⟩ :: ⟨_, (true && ((x9 != x11) == false)), .raw (.bool (!x17))⟩ :: ⟨_, true, .raw (.bool x19)⟩ :: []) (tl := []) (by kernel_rfl) (by kernel_rfl) (by kernel_rfl) ?_ ?_
  ·exact
    Obls.p (fun R' w' hw hs hd => of_move ((hs 7 rfl).trans h7)) <|
    Obls.p (fun R' w' hw hs hd => of_move ((hs 3 rfl).trans h3)) <|
    Obls.p (fun R' w' hw hs hd => of_move ((hs 4 rfl).trans h4)) <|
    Obls.p (fun R' w' hw hs hd => of_move ((hs 5 rfl).trans h5)) <|
    Obls.p (fun R' w' hw hs hd => of_move ((hs 6 rfl).trans h6)) <|
    Obls.p (fun R' w' hw hs hd => by have a0 : R' 30 = u6 := hd.g 0 rfl; have ra0 := (f_u6.fr hw).eq a0; have a1 : R' 31 = u7 := hd.g 1 rfl; have ra1 := (f_u7.fr hw).eq a1; have a2 : R' 32 = u8 := hd.g 2 rfl; have ra2 := (f_u8.fr hw).eq a2; have a3 : R' 33 = .int .i64 x4.2.2.2 := hd.g 3 rfl; exact of_call Tryz.call8 (M_spec_SharePrefix_ok (q12 rfl) (hA.fr hw.size) ra0 ra1 ra2 a3)) <|
    Obls.p (fun R' w' hw hs hd => by have a0 : R' 29 = .bool x9 := hd.g 0 rfl; have a1 : R' 34 = .bool x11 := hd.g 1 rfl; exact of_bneq Tryz.underlying4 a0 a1) <|
    Obls.p (fun R' w' hw hs hd => by have a0 : R' 35 = .bool (x9 != x11) := hd.g 0 rfl; exact of_move a0) <|
    Obls.cons (Obl.grd 7 false _ _ _ rfl rfl rfl rfl rfl (by kernel_rfl) fun hg R' w' hw hs hd => by have a0 : R' 3 = u6 := (hs 3 rfl).trans h3; exact of_move a0) <|
    Obls.cons (Obl.grd 7 false _ _ _ rfl rfl rfl rfl rfl (by kernel_rfl) fun hg R' w' hw hs hd => by have a0 : R' 4 = u7 := (hs 4 rfl).trans h4; exact of_move a0) <|
    Obls.cons (Obl.grd 7 false _ _ _ rfl rfl rfl rfl rfl (by kernel_rfl) fun hg R' w' hw hs hd => by have a0 : R' 6 = .int .i64 x4.2.2.2 := (hs 6 rfl).trans h6; exact of_move a0) <|
    Obls.cons (Obl.grd 7 false _ _ _ rfl rfl rfl rfl rfl (by kernel_rfl) fun hg R' w' hw hs hd => by have a0 : R' 37 = u6 := hd 0 _ _ _ rfl rfl rfl rfl hg; have ra0 := (f_u6.fr hw).eq a0; have a1 : R' 38 = u7 := hd 1 _ _ _ rfl rfl rfl rfl hg; have ra1 := (f_u7.fr hw).eq a1; have a2 : R' 39 = .int .i64 x4.2.2.2 := hd 2 _ _ _ rfl rfl rfl rfl hg; exact of_call Tryz.call10 (M_impl_PrefixTokens_okR (q14 hg) (hA.fr hw.size) ra0 ra1 a2)) <|
    Obls.cons (Obl.grd 7 false _ _ _ rfl rfl rfl rfl rfl (by kernel_rfl) fun hg R' w' hw hs hd => by have a0 : R' 3 = u6 := (hs 3 rfl).trans h3; exact of_move a0) <|
    Obls.cons (Obl.grd 7 false _ _ _ rfl rfl rfl rfl rfl (by kernel_rfl) fun hg R' w' hw hs hd => by have a0 : R' 4 = u7 := (hs 4 rfl).trans h4; exact of_move a0) <|
    Obls.cons (Obl.grd 7 false _ _ _ rfl rfl rfl rfl rfl (by kernel_rfl) fun hg R' w' hw hs hd => by have a0 : R' 6 = .int .i64 x4.2.2.2 := (hs 6 rfl).trans h6; exact of_move a0) <|
    Obls.cons (Obl.grd 7 false _ _ _ rfl rfl rfl rfl rfl (by kernel_rfl) fun hg R' w' hw hs hd => by have a0 : R' 41 = u6 := hd 0 _ _ _ rfl rfl rfl rfl hg; have ra0 := (f_u6.fr hw).eq a0; have a1 : R' 42 = u7 := hd 1 _ _ _ rfl rfl rfl rfl hg; have ra1 := (f_u7.fr hw).eq a1; have a2 : R' 43 = .int .i64 x4.2.2.2 := hd 2 _ _ _ rfl rfl rfl rfl hg; exact of_call Tryz.call11 (M_spec_PrefixTokens_okR (q16 hg) (hA.fr hw.size) ra0 ra1 a2)) <|
    Obls.cons (Obl.grd 7 false _ _ _ rfl rfl rfl rfl rfl (by kernel_rfl) fun hg R' w' hw hs hd => by have a0 : Rep (eSl eStr) A w' (R' 40) x13 := hd 0 _ _ _ rfl rfl rfl rfl hg; have a1 : Rep (eSl eStr) A w' (R' 44) x15 := hd 1 _ _ _ rfl rfl rfl rfl hg; exact of_call Tryz.call9 (M_spec_EqualTokens_ok (q18 hg) (hA.fr hw.size) a0 a1)) <|
    Obls.cons (Obl.grd 7 false _ _ _ rfl rfl rfl rfl rfl (by kernel_rfl) fun hg R' w' hw hs hd => by have a0 : R' 45 = .bool x17 := hd 0 _ _ _ rfl rfl rfl rfl hg; exact of_not a0) <|
    Obls.p (fun R' w' hw hs hd => by have a0 : R' 36 = .bool (x9 != x11) := hd.g 0 rfl; exact of_pick (x9 != x11) a0 (fun hc => by show _ = Value.bool x19; rw [q20, hc]; exact rfl) (fun hc => by have a2 : R' 46 = .bool (!x17) := hd 1 _ _ _ rfl rfl rfl rfl (g_and rfl (beq_of hc)); show _ = Value.bool x19; rw [q20, hc]; exact a2)) <|
    Obls.nil
  intro R w hw hs hF'
  replace h3 := (hs 3 rfl).trans h3
  replace h4 := (hs 4 rfl).trans h4
  replace h5 := (hs 5 rfl).trans h5
  replace h6 := (hs 6 rfl).trans h6
  replace h7 := (hs 7 rfl).trans h7
  have h47 : R 47 = .bool x19 := hF' 18 _ _ rfl rfl rfl
  replace f_u6 := f_u6.fr hw
  replace f_u7 := f_u7.fr hw
  replace f_u8 := f_u8.fr hw
  replace hA := hA.fr hw.size
  replace hF := hF.trans hw
  clear hs hF' hw
  refine seqR_nil ?_
  refine HT.cond x19 h47 (fun c21 => ?_) (fun c21 => ?_)
  ·have hr := cnd_t c21 hr
   refine HT.seq ?_
   refine HT.text (l := ⟨_, true, .raw (.bool false)⟩ :: []) (tl := []) (by kernel_rfl) (by kernel_rfl) (by kernel_rfl) ?_ ?_
   ·exact
     Obls.p (fun R' w' hw hs hd => of_assign rfl) <|
     Obls.nil
   intro R w hw hs hF'
   have h2 : R 2 = .bool false := hF' 0 _ _ rfl rfl rfl
   replace hA := hA.fr hw.size
   replace hF := hF.trans hw
   clear hs hF' hw
   refine seqR_nil ?_
   refine HT.ret ?_
   obtain rfl := Option.some.inj hr
   exact ⟨.inr rfl, [R 2], ⟨rfl, trivial⟩, h2, hF⟩
  ·have hr := cnd_f c21 hr
   refine HT.skip ?_
   refine HT.seq ?_
   obtain ⟨x22, q23, hr⟩ := cl_some hr
   refine HT.text (l := ⟨_, true, .raw u7⟩ :: ⟨_, true, .raw u8⟩ :: ⟨_, true, .raw (.int .i64 x4.2.2.2)⟩ :: ⟨_, true, .raw (.bool x22)⟩ :: ⟨_, true, .raw (.bool x22)⟩ :: []) (tl := []) (by kernel_rfl) (by kernel_rfl) (by kernel_rfl) ?_ ?_
   ·exact
     Obls.p (fun R' w' hw hs hd => of_move ((hs 4 rfl).trans h4)) <|
     Obls.p (fun R' w' hw hs hd => of_move ((hs 5 rfl).trans h5)) <|
     Obls.p (fun R' w' hw hs hd => of_move ((hs 6 rfl).trans h6)) <|
     Obls.p (fun R' w' hw hs hd => by have a0 : R' 48 = u7 := hd.g 0 rfl; have ra0 := (f_u7.fr hw).eq a0; have a1 : R' 49 = u8 := hd.g 1 rfl; have ra1 := (f_u8.fr hw).eq a1; have a2 : R' 50 = .int .i64 x4.2.2.2 := hd.g 2 rfl; exact of_call Tryz.call12 (M_impl_MeetsJaccard_ok (q23 rfl) (hA.fr hw.size) ra0 ra1 a2)) <|
     Obls.p (fun R' w' hw hs hd => by have a0 : R' 51 = .bool x22 := hd.g 0 rfl; exact of_assign a0) <|
     Obls.nil
   intro R w hw hs hF'
   replace h3 := (hs 3 rfl).trans h3
   replace h4 := (hs 4 rfl).trans h4
   replace h5 := (hs 5 rfl).trans h5
   replace h6 := (hs 6 rfl).trans h6
   replace h7 := (hs 7 rfl).trans h7
   have h8 : R 8 = .bool x22 := hF' 4 _ _ rfl rfl rfl
   replace f_u6 := f_u6.fr hw
   replace f_u7 := f_u7.fr hw
   replace f_u8 := f_u8.fr hw
   replace hA := hA.fr hw.size
   replace hF := hF.trans hw
   clear hs hF' hw
   refine seqR_nil ?_
   refine HT.seq ?_
   refine HT.seq ?_
   obtain ⟨x24, q25, hr⟩ := cl_some hr
   refine HT.text (l := ⟨_, true, .raw (.bool x22)⟩ :: ⟨_, true, .raw u7⟩ :: ⟨_, true, .raw u8⟩ :: ⟨_, true, .raw (.int .i64 x4.2.2.2)⟩ :: ⟨_, true, .raw (.bool x24)⟩ :: ⟨_, true, .raw (.bool (x22 != x24))⟩ :: []) (tl := []) (by kernel_rfl) (by kernel_rfl) (by kernel_rfl) ?_ ?_
   ·exact
     Obls.p (fun R' w' hw hs hd => of_move ((hs 8 rfl).trans h8)) <|
     Obls.p (fun R' w' hw hs hd => of_move ((hs 4 rfl).trans h4)) <|
     Obls.p (fun R' w' hw hs hd => of_move ((hs 5 rfl).trans h5)) <|
     Obls.p (fun R' w' hw hs hd => of_move ((hs 6 rfl).trans h6)) <|
     Obls.p (fun R' w' hw hs hd => by have a0 : R' 53 = u7 := hd.g 0 rfl; have ra0 := (f_u7.fr hw).eq a0; have a1 : R' 54 = u8 := hd.g 1 rfl; have ra1 := (f_u8.fr hw).eq a1; have a2 : R' 55 = .int .i64 x4.2.2.2 := hd.g 2 rfl; exact of_call Tryz.call13 (M_spec_MeetsJaccard_ok (q25 rfl) (hA.fr hw.size) ra0 ra1 a2)) <|
     Obls.p (fun R' w' hw hs hd => by have a0 : R' 52 = .bool x22 := hd.g 0 rfl; have a1 : R' 56 = .bool x24 := hd.g 1 rfl; exact of_bneq Tryz.underlying4 a0 a1) <|
     Obls.nil
   intro R w hw hs hF'
   replace h3 := (hs 3 rfl).trans h3
   replace h4 := (hs 4 rfl).trans h4
   replace h5 := (hs 5 rfl).trans h5
   replace h6 := (hs 6 rfl).trans h6
   replace h7 := (hs 7 rfl).trans h7
   replace h8 := (hs 8 rfl).trans h8
   have h57 : R 57 = .bool (x22 != x24) := hF' 5 _ _ rfl rfl rfl
   replace f_u6 := f_u6.fr hw
   replace f_u7 := f_u7.fr hw
   replace f_u8 := f_u8.fr hw
   replace hA := hA.fr hw.size
   replace hF := hF.trans hw
   clear hs hF' hw
   refine seqR_nil ?_
   refine HT.cond (x22 != x24) h57 (fun c26 => ?_) (fun c26 => ?_)
   ·have hr := cnd_t c26 hr
    refine HT.seq ?_
    refine HT.text (l := ⟨_, true, .raw (.bool false)⟩ :: []) (tl := []) (by kernel_rfl) (by kernel_rfl) (by kernel_rfl) ?_ ?_
    ·exact
      Obls.p (fun R' w' hw hs hd => of_assign rfl) <|
      Obls.nil
    intro R w hw hs hF'
    have h2 : R 2 = .bool false := hF' 0 _ _ rfl rfl rfl
    replace hA := hA.fr hw.size
    replace hF := hF.trans hw
    clear hs hF' hw
    refine seqR_nil ?_
    refine HT.ret ?_
    obtain rfl := Option.some.inj hr
    exact ⟨.inr rfl, [R 2], ⟨rfl, trivial⟩, h2, hF⟩
   ·have hr := cnd_f c26 hr
    refine HT.skip ?_
    refine HT.seq ?_
    obtain ⟨x27, q28, hr⟩ := cl_some hr
    refine HT.text (l := ⟨_, true, .raw u7⟩ :: ⟨_, true, .raw (.int .i64 (x4.2.1.length : Int))⟩ :: ⟨_, true, .raw (.int .i64 x4.2.2.2)⟩ :: ⟨_, true, .tup2 (.raw (.int .i64 x27.1)) (.raw (.int .i64 x27.2))⟩ :: ⟨_, true, .tup2 (.raw (.int .i64 x27.1)) (.raw (.int .i64 x27.2))⟩ :: ⟨_, true, .raw (.int .i64 x27.1)⟩ :: ⟨_, true, .raw (.int .i64 x27.2)⟩ :: ⟨_, true, .raw (.int .i64 x27.1)⟩ :: ⟨_, true, .raw (.int .i64 x27.2)⟩ :: []) (tl := []) (by kernel_rfl) (by kernel_rfl) (by kernel_rfl) ?_ ?_
    ·exact
      Obls.p (fun R' w' hw hs hd => of_move ((hs 4 rfl).trans h4)) <|
      Obls.p (fun R' w' hw hs hd => by have a0 : R' 59 = u7 := hd.g 0 rfl; have ra0 := (f_u7.fr hw).eq a0; exact of_len_sl (aT := #[]) ra0 Tryz.underlying25) <|
      Obls.p (fun R' w' hw hs hd => of_move ((hs 6 rfl).trans h6)) <|
      Obls.p (fun R' w' hw hs hd => by have a0 : R' 60 = .int .i64 (x4.2.1.length : Int) := hd.g 0 rfl; have a1 : R' 61 = .int .i64 x4.2.2.2 := hd.g 1 rfl; exact of_call Tryz.call14 (M_impl_LengthBounds_ok (q28 rfl) (hA.fr hw.size) a0 a1)) <|
      Obls.p (fun R' w' hw hs hd => by have a0 : Fact.ok (.tup2 (.raw (.int .i64 x27.1)) (.raw (.int .i64 x27.2))) (R' 62) w' := hd.g 0 rfl; exact of_move a0) <|
      Obls.p (fun R' w' hw hs hd => by have a0 : Fact.ok (.tup2 (.raw (.int .i64 x27.1)) (.raw (.int .i64 x27.2))) (R' 58) w' := hd.g 0 rfl; exact of_extract2_0 a0) <|
      Obls.p (fun R' w' hw hs hd => by have a0 : Fact.ok (.tup2 (.raw (.int .i64 x27.1)) (.raw (.int .i64 x27.2))) (R' 58) w' := hd.g 0 rfl; exact of_extract2_1 a0) <|
      Obls.p (fun R' w' hw hs hd => by have a0 : R' 63 = .int .i64 x27.1 := hd.g 0 rfl; exact of_assign a0) <|
      Obls.p (fun R' w' hw hs hd => by have a0 : R' 64 = .int .i64 x27.2 := hd.g 0 rfl; exact of_assign a0) <|
      Obls.nil
    intro R w hw hs hF'
    replace h3 := (hs 3 rfl).trans h3
    replace h4 := (hs 4 rfl).trans h4
    replace h5 := (hs 5 rfl).trans h5
    replace h6 := (hs 6 rfl).trans h6
    replace h7 := (hs 7 rfl).trans h7
    replace h8 := (hs 8 rfl).trans h8
    have h9 : R 9 = .int .i64 x27.1 := hF' 7 _ _ rfl rfl rfl
    have h10 : R 10 = .int .i64 x27.2 := hF' 8 _ _ rfl rfl rfl
    replace f_u6 := f_u6.fr hw
    replace f_u7 := f_u7.fr hw
    replace f_u8 := f_u8.fr hw
    replace hA := hA.fr hw.size
    replace hF := hF.trans hw
    clear hs hF' hw
    refine seqR_nil ?_
    refine HT.seq ?_
    obtain ⟨x29, q30, hr⟩ := cl_some hr
    refine HT.text (l := ⟨_, true, .raw u7⟩ :: ⟨_, true, .raw (.int .i64 (x4.2.1.length : Int))⟩ :: ⟨_, true, .raw (.int .i64 x4.2.2.2)⟩ :: ⟨_, true, .tup2 (.raw (.int .i64 x29.1)) (.raw (.int .i64 x29.2))⟩ :: ⟨_, true, .tup2 (.raw (.int .i64 x29.1)) (.raw (.int .i64 x29.2))⟩ :: ⟨_, true, .raw (.int .i64 x29.1)⟩ :: ⟨_, true, .raw (.int .i64 x29.2)⟩ :: ⟨_, true, .raw (.int .i64 x29.1)⟩ :: ⟨_, true, .raw (.int .i64 x29.2)⟩ :: []) (tl := []) (by kernel_rfl) (by kernel_rfl) (by kernel_rfl) ?_ ?_
    ·exact
      Obls.p (fun R' w' hw hs hd => of_move ((hs 4 rfl).trans h4)) <|
      Obls.p (fun R' w' hw hs hd => by have a0 : R' 66 = u7 := hd.g 0 rfl; have ra0 := (f_u7.fr hw).eq a0; exact of_len_sl (aT := #[]) ra0 Tryz.underlying25) <|
      Obls.p (fun R' w' hw hs hd => of_move ((hs 6 rfl).trans h6)) <|
      Obls.p (fun R' w' hw hs hd => by have a0 : R' 67 = .int .i64 (x4.2.1.length : Int) := hd.g 0 rfl; have a1 : R' 68 = .int .i64 x4.2.2.2 := hd.g 1 rfl; exact of_call Tryz.call15 (M_spec_LengthBounds_ok (q30 rfl) (hA.fr hw.size) a0 a1)) <|
      Obls.p (fun R' w' hw hs hd => by have a0 : Fact.ok (.tup2 (.raw (.int .i64 x29.1)) (.raw (.int .i64 x29.2))) (R' 69) w' := hd.g 0 rfl; exact of_move a0) <|
      Obls.p (fun R' w' hw hs hd => by have a0 : Fact.ok (.tup2 (.raw (.int .i64 x29.1)) (.raw (.int .i64 x29.2))) (R' 65) w' := hd.g 0 rfl; exact of_extract2_0 a0) <|
      Obls.p (fun R' w' hw hs hd => by have a0 : Fact.ok (.tup2 (.raw (.int .i64 x29.1)) (.raw (.int .i64 x29.2))) (R' 65) w' := hd.g 0 rfl; exact of_extract2_1 a0) <|
      Obls.p (fun R' w' hw hs hd => by have a0 : R' 70 = .int .i64 x29.1 := hd.g 0 rfl; exact of_assign a0) <|
      Obls.p (fun R' w' hw hs hd => by have a0 : R' 71 = .int .i64 x29.2 := hd.g 0 rfl; exact of_assign a0) <|
      Obls.nil
    intro R w hw hs hF'
    replace h3 := (hs 3 rfl).trans h3
    replace h4 := (hs 4 rfl).trans h4
    replace h5 := (hs 5 rfl).trans h5
    replace h6 := (hs 6 rfl).trans h6
    replace h7 := (hs 7 rfl).trans h7
    replace h8 := (hs 8 rfl).trans h8
    replace h9 := (hs 9 rfl).trans h9
    replace h10 := (hs 10 rfl).trans h10
    have h11 : R 11 = .int .i64 x29.1 := hF' 7 _ _ rfl rfl rfl
    have h12 : R 12 = .int .i64 x29.2 := hF' 8 _ _ rfl rfl rfl
    replace f_u6 := f_u6.fr hw
    replace f_u7 := f_u7.fr hw
    replace f_u8 := f_u8.fr hw
    replace hA := hA.fr hw.size
    replace hF := hF.trans hw
    clear hs hF' hw
    refine seqR_nil ?_
    refine HT.seq ?_
    obtain ⟨x31, q32, hr⟩ := cl_some hr
    refine HT.text (l := ⟨_, true, .raw u7⟩ :: ⟨_, true, .raw (.int .i64 (x4.2.1.length : Int))⟩ :: ⟨_, true, .raw u8⟩ :: ⟨_, true, .raw (.int .i64 (x4.2.2.1.length : Int))⟩ :: ⟨_, true, .raw (.int .i64 x4.2.2.2)⟩ :: ⟨_, true, .raw (.int .i64 x31)⟩ :: ⟨_, true, .raw (.int .i64 x31)⟩ :: []) (tl := []) (by kernel_rfl) (by kernel_rfl) (by kernel_rfl) ?_ ?_
    ·exact
      Obls.p (fun R' w' hw hs hd => of_move ((hs 4 rfl).trans h4)) <|
      Obls.p (fun R' w' hw hs hd => by have a0 : R' 72 = u7 := hd.g 0 rfl; have ra0 := (f_u7.fr hw).eq a0; exact of_len_sl (aT := #[]) ra0 Tryz.underlying25) <|
      Obls.p (fun R' w' hw hs hd => of_move ((hs 5 rfl).trans h5)) <|
      Obls.p (fun R' w' hw hs hd => by have a0 : R' 74 = u8 := hd.g 0 rfl; have ra0 := (f_u8.fr hw).eq a0; exact of_len_sl (aT := #[]) ra0 Tryz.underlying25) <|
      Obls.p (fun R' w' hw hs hd => of_move ((hs 6 rfl).trans h6)) <|
      Obls.p (fun R' w' hw hs hd => by have a0 : R' 73 = .int .i64 (x4.2.1.length : Int) := hd.g 0 rfl; have a1 : R' 75 = .int .i64 (x4.2.2.1.length : Int) := hd.g 1 rfl; have a2 : R' 76 = .int .i64 x4.2.2.2 := hd.g 2 rfl; exact of_call Tryz.call16 (M_impl_MinOverlap_ok (q32 rfl) (hA.fr hw.size) a0 a1 a2)) <|
      Obls.p (fun R' w' hw hs hd => by have a0 : R' 77 = .int .i64 x31 := hd.g 0 rfl; exact of_assign a0) <|
      Obls.nil
    intro R w hw hs hF'
    replace h3 := (hs 3 rfl).trans h3
    replace h4 := (hs 4 rfl).trans h4
    replace h5 := (hs 5 rfl).trans h5
    replace h6 := (hs 6 rfl).trans h6
    replace h7 := (hs 7 rfl).trans h7
    replace h8 := (hs 8 rfl).trans h8
    replace h9 := (hs 9 rfl).trans h9
    replace h10 := (hs 10 rfl).trans h10
    replace h11 := (hs 11 rfl).trans h11
    replace h12 := (hs 12 rfl).trans h12
    have h13 : R 13 = .int .i64 x31 := hF' 6 _ _ rfl rfl rfl
    replace f_u6 := f_u6.fr hw
    replace f_u7 := f_u7.fr hw
    replace f_u8 := f_u8.fr hw
    replace hA := hA.fr hw.size
    replace hF := hF.trans hw
    clear hs hF' hw
    refine seqR_nil ?_
    refine HT.seq ?_
    refine HT.seq ?_
    obtain ⟨x33, q34, hr⟩ := bd_some hr
    obtain ⟨x35, q36, hr⟩ := cl_some hr
    obtain ⟨x37, q38, hr⟩ := bd_some hr
    obtain ⟨x39, q40, hr⟩ := cl_some hr
    obtain ⟨x41, q42, hr⟩ := cl_some hr
    obtain ⟨x43, q44, hr⟩ := bd_some hr
    refine HT.text (l := ⟨_, true, .raw (.int .i64 x27.1)⟩ :: ⟨_, true, .raw (.int .i64 x29.1)⟩ :: ⟨_, true, .raw (.bool (x27.1 != x29.1))⟩ :: ⟨_, true, .raw (.bool (x27.1 != x29.1))⟩ :: ⟨_, (true && ((x27.1 != x29.1) == false)), .raw (.int .i64 x27.2)⟩ :: ⟨_, (true && ((x27.1 != x29.1) == false)), .raw (.int .i64 x29.2)⟩ :: ⟨_, (true && ((x27.1 != x29.1) == false)), .raw (.bool (x27.2 != x29.2))⟩ :: ⟨_, true, .raw (.bool x33)⟩ :: ⟨_, true, .raw (.bool x33)⟩ :: ⟨_, (true && (x33 == false)), .raw (.int .i64 x31)⟩ :: ⟨_, (true && (x33 == false)), .raw u7⟩ :: ⟨_, (true && (x33 == false)), .raw (.int .i64 (x4.2.1.length : Int))⟩ :: ⟨_, (true && (x33 == false)), .raw u8⟩ :: ⟨_, (true && (x33 == false)), .raw (.int .i64 (x4.2.2.1.length : Int))⟩ :: ⟨_, (true && (x33 == false)), .raw (.int .i64 x4.2.2.2)⟩ :: ⟨_, (true && (x33 == false)), .raw (.int .i64 x35)⟩ :: ⟨_, (true && (x33 == false)), .raw (.bool (x31 != x35))⟩ :: ⟨_, true, .raw (.bool x37)⟩ :: ⟨_, true, .raw (.bool x37)⟩ :: ⟨_, (true && (x37 == false)), .raw u7⟩ :: ⟨_, (true && (x37 == false)), .raw (.int .i64 (x4.2.1.length : Int))⟩ :: ⟨_, (true && (x37 == false)), .raw (.int .i64 x4.2.2.2)⟩ :: ⟨_, (true && (x37 == false)), .raw (.int .i64 x39)⟩ :: ⟨_, (true && (x37 == false)), .raw u7⟩ :: ⟨_, (true && (x37 == false)), .raw (.int .i64 (x4.2.1.length : Int))⟩ :: ⟨_, (true && (x37 == false)), .raw (.int .i64 x4.2.2.2)⟩ :: ⟨_, (true && (x37 == false)), .raw (.int .i64 x41)⟩ :: ⟨_, (true && (x37 == false)), .raw (.bool (x39 != x41))⟩ :: ⟨_, true, .raw (.bool x43)⟩ :: []) (tl := []) (by kernel_rfl) (by kernel_rfl) (by kernel_rfl) ?_ ?_
    ·exact
      Obls.p (fun R' w' hw hs hd => of_move ((hs 9 rfl).trans h9)) <|
      Obls.p (fun R' w' hw hs hd => of_move ((hs 11 rfl).trans h11)) <|
      Obls.p (fun R' w' hw hs hd => by have a0 : R' 78 = .int .i64 x27.1 := hd.g 0 rfl; have a1 : R' 79 = .int .i64 x29.1 := hd.g 1 rfl; exact of_neq a0 a1) <|
      Obls.p (fun R' w' hw hs hd => by have a0 : R' 80 = .bool (x27.1 != x29.1) := hd.g 0 rfl; exact of_move a0) <|
      Obls.cons (Obl.grd 3 false _ _ _ rfl rfl rfl rfl rfl (by kernel_rfl) fun hg R' w' hw hs hd => by have a0 : R' 10 = .int .i64 x27.2 := (hs 10 rfl).trans h10; exact of_move a0) <|
      Obls.cons (Obl.grd 3 false _ _ _ rfl rfl rfl rfl rfl (by kernel_rfl) fun hg R' w' hw hs hd => by have a0 : R' 12 = .int .i64 x29.2 := (hs 12 rfl).trans h12; exact of_move a0) <|
      Obls.cons (Obl.grd 3 false _ _ _ rfl rfl rfl rfl rfl (by kernel_rfl) fun hg R' w' hw hs hd => by have a0 : R' 82 = .int .i64 x27.2 := hd 0 _ _ _ rfl rfl rfl rfl hg; have a1 : R' 83 = .int .i64 x29.2 := hd 1 _ _ _ rfl rfl rfl rfl hg; exact of_neq a0 a1) <|
      Obls.p (fun R' w' hw hs hd => by have a0 : R' 81 = .bool (x27.1 != x29.1) := hd.g 0 rfl; exact of_pick (x27.1 != x29.1) a0 (fun hc => by show _ = Value.bool x33; rw [q34, hc]; exact rfl) (fun hc => by have a2 : R' 84 = .bool (x27.2 != x29.2) := hd 1 _ _ _ rfl rfl rfl rfl (g_and rfl (beq_of hc)); show _ = Value.bool x33; rw [q34, hc]; exact a2)) <|
      Obls.p (fun R' w' hw hs hd => by have a0 : R' 85 = .bool x33 := hd.g 0 rfl; exact of_move a0) <|
      Obls.cons (Obl.grd 8 false _ _ _ rfl rfl rfl rfl rfl (by kernel_rfl) fun hg R' w' hw hs hd => by have a0 : R' 13 = .int .i64 x31 := (hs 13 rfl).trans h13; exact of_move a0) <|
      Obls.cons (Obl.grd 8 false _ _ _ rfl rfl rfl rfl rfl (by kernel_rfl) fun hg R' w' hw hs hd => by have a0 : R' 4 = u7 := (hs 4 rfl).trans h4; exact of_move a0) <|
      Obls.cons (Obl.grd 8 false _ _ _ rfl rfl rfl rfl rfl (by kernel_rfl) fun hg R' w' hw hs hd => by have a0 : R' 88 = u7 := hd 0 _ _ _ rfl rfl rfl rfl hg; have ra0 := (f_u7.fr hw).eq a0; exact of_len_sl (aT := #[]) ra0 Tryz.underlying25) <|
      Obls.cons (Obl.grd 8 false _ _ _ rfl rfl rfl rfl rfl (by kernel_rfl) fun hg R' w' hw hs hd => by have a0 : R' 5 = u8 := (hs 5 rfl).trans h5; exact of_move a0) <|
      Obls.cons (Obl.grd 8 false _ _ _ rfl rfl rfl rfl rfl (by kernel_rfl) fun hg R' w' hw hs hd => by have a0 : R' 90 = u8 := hd 0 _ _ _ rfl rfl rfl rfl hg; have ra0 := (f_u8.fr hw).eq a0; exact of_len_sl (aT := #[]) ra0 Tryz.underlying25) <|
      Obls.cons (Obl.grd 8 false _ _ _ rfl rfl rfl rfl rfl (by kernel_rfl) fun hg R' w' hw hs hd => by have a0 : R' 6 = .int .i64 x4.2.2.2 := (hs 6 rfl).trans h6; exact of_move a0) <|
      Obls.cons (Obl.grd 8 false _ _ _ rfl rfl rfl rfl rfl (by kernel_rfl) fun hg R' w' hw hs hd => by have a0 : R' 89 = .int .i64 (x4.2.1.length : Int) := hd 0 _ _ _ rfl rfl rfl rfl hg; have a1 : R' 91 = .int .i64 (x4.2.2.1.length : Int) := hd 1 _ _ _ rfl rfl rfl rfl hg; have a2 : R' 92 = .int .i64 x4.2.2.2 := hd 2 _ _ _ rfl rfl rfl rfl hg; exact of_call Tryz.call17 (M_spec_MinOverlap_ok (q36 hg) (hA.fr hw.size) a0 a1 a2)) <|
      Obls.cons (Obl.grd 8 false _ _ _ rfl rfl rfl rfl rfl (by kernel_rfl) fun hg R' w' hw hs hd => by have a0 : R' 87 = .int .i64 x31 := hd 0 _ _ _ rfl rfl rfl rfl hg; have a1 : R' 93 = .int .i64 x35 := hd 1 _ _ _ rfl rfl rfl rfl hg; exact of_neq a0 a1) <|
      Obls.p (fun R' w' hw hs hd => by have a0 : R' 86 = .bool x33 := hd.g 0 rfl; exact of_pick x33 a0 (fun hc => by show _ = Value.bool x37; rw [q38, hc]; exact rfl) (fun hc => by have a2 : R' 94 = .bool (x31 != x35) := hd 1 _ _ _ rfl rfl rfl rfl (g_and rfl (beq_of hc)); show _ = Value.bool x37; rw [q38, hc]; exact a2)) <|
      Obls.p (fun R' w' hw hs hd => by have a0 : R' 95 = .bool x37 := hd.g 0 rfl; exact of_move a0) <|
      Obls.cons (Obl.grd 18 false _ _ _ rfl rfl rfl rfl rfl (by kernel_rfl) fun hg R' w' hw hs hd => by have a0 : R' 4 = u7 := (hs 4 rfl).trans h4; exact of_move a0) <|
      Obls.cons (Obl.grd 18 false _ _ _ rfl rfl rfl rfl rfl (by kernel_rfl) fun hg R' w' hw hs hd => by have a0 : R' 97 = u7 := hd 0 _ _ _ rfl rfl rfl rfl hg; have ra0 := (f_u7.fr hw).eq a0; exact of_len_sl (aT := #[]) ra0 Tryz.underlying25) <|
      Obls.cons (Obl.grd 18 false _ _ _ rfl rfl rfl rfl rfl (by kernel_rfl) fun hg R' w' hw hs hd => by have a0 : R' 6 = .int .i64 x4.2.2.2 := (hs 6 rfl).trans h6; exact of_move a0) <|
      Obls.cons (Obl.grd 18 false _ _ _ rfl rfl rfl rfl rfl (by kernel_rfl) fun hg R' w' hw hs hd => by have a0 : R' 98 = .int .i64 (x4.2.1.length : Int) := hd 0 _ _ _ rfl rfl rfl rfl hg; have a1 : R' 99 = .int .i64 x4.2.2.2 := hd 1 _ _ _ rfl rfl rfl rfl hg; exact of_call Tryz.call18 (M_impl_PrefixLength_ok (q40 hg) (hA.fr hw.size) a0 a1)) <|
      Obls.cons (Obl.grd 18 false _ _ _ rfl rfl rfl rfl rfl (by kernel_rfl) fun hg R' w' hw hs hd => by have a0 : R' 4 = u7 := (hs 4 rfl).trans h4; exact of_move a0) <|
      Obls.cons (Obl.grd 18 false _ _ _ rfl rfl rfl rfl rfl (by kernel_rfl) fun hg R' w' hw hs hd => by have a0 : R' 101 = u7 := hd 0 _ _ _ rfl rfl rfl rfl hg; have ra0 := (f_u7.fr hw).eq a0; exact of_len_sl (aT := #[]) ra0 Tryz.underlying25) <|
      Obls.cons (Obl.grd 18 false _ _ _ rfl rfl rfl rfl rfl (by kernel_rfl) fun hg R' w' hw hs hd => by have a0 : R' 6 = .int .i64 x4.2.2.2 := (hs 6 rfl).trans h6; exact of_move a0) <|
      Obls.cons (Obl.grd 18 false _ _ _ rfl rfl rfl rfl rfl (by kernel_rfl) fun hg R' w' hw hs hd => by have a0 : R' 102 = .int .i64 (x4.2.1.length : Int) := hd 0 _ _ _ rfl rfl rfl rfl hg; have a1 : R' 103 = .int .i64 x4.2.2.2 := hd 1 _ _ _ rfl rfl rfl rfl hg; exact of_call Tryz.call19 (M_spec_PrefixLength_ok (q42 hg) (hA.fr hw.size) a0 a1)) <|
      Obls.cons (Obl.grd 18 false _ _ _ rfl rfl rfl rfl rfl (by kernel_rfl) fun hg R' w' hw hs hd => by have a0 : R' 100 = .int .i64 x39 := hd 0 _ _ _ rfl rfl rfl rfl hg; have a1 : R' 104 = .int .i64 x41 := hd 1 _ _ _ rfl rfl rfl rfl hg; exact of_neq a0 a1) <|
      Obls.p (fun R' w' hw hs hd => by have a0 : R' 96 = .bool x37 := hd.g 0 rfl; exact of_pick x37 a0 (fun hc => by show _ = Value.bool x43; rw [q44, hc]; exact rfl) (fun hc => by have a2 : R' 105 = .bool (x39 != x41) := hd 1 _ _ _ rfl rfl rfl rfl (g_and rfl (beq_of hc)); show _ = Value.bool x43; rw [q44, hc]; exact a2)) <|
      Obls.nil
    intro R w hw hs hF'
    replace h3 := (hs 3 rfl).trans h3
    replace h4 := (hs 4 rfl).trans h4
    replace h5 := (hs 5 rfl).trans h5
    replace h6 := (hs 6 rfl).trans h6
    replace h7 := (hs 7 rfl).trans h7
    replace h8 := (hs 8 rfl).trans h8
    replace h9 := (hs 9 rfl).trans h9
    replace h10 := (hs 10 rfl).trans h10
    replace h13 := (hs 13 rfl).trans h13
    have h106 : R 106 = .bool x43 := hF' 28 _ _ rfl rfl rfl
    replace f_u6 := f_u6.fr hw
    replace f_u7 := f_u7.fr hw
    replace f_u8 := f_u8.fr hw
    replace hA := hA.fr hw.size
    replace hF := hF.trans hw
    clear hs hF' hw
    refine seqR_nil ?_
    refine HT.cond x43 h106 (fun c45 => ?_) (fun c45 => ?_)
    ·have hr := cnd_t c45 hr
     refine HT.seq ?_
     refine HT.text (l := ⟨_, true, .raw (.bool false)⟩ :: []) (tl := []) (by kernel_rfl) (by kernel_rfl) (by kernel_rfl) ?_ ?_
     ·exact
       Obls.p (fun R' w' hw hs hd => of_assign rfl) <|
       Obls.nil
     intro R w hw hs hF'
     have h2 : R 2 = .bool false := hF' 0 _ _ rfl rfl rfl
     replace hA := hA.fr hw.size
     replace hF := hF.trans hw
     clear hs hF' hw
     refine seqR_nil ?_
     refine HT.ret ?_
     obtain rfl := Option.some.inj hr
     exact ⟨.inr rfl, [R 2], ⟨rfl, trivial⟩, h2, hF⟩
    ·have hr := cnd_f c45 hr
     refine HT.skip ?_
     refine HT.seq ?_
     refine HT.seq ?_
     obtain ⟨x46, q47, hr⟩ := cl_some hr
     obtain ⟨x48, q49, hr⟩ := cl_some hr
     obtain ⟨x50, q51, hr⟩ := bd_some hr
     obtain ⟨x52, q53, hr⟩ := bd_some hr
     obtain ⟨x54, q55, hr⟩ := bd_some hr
     refine HT.text (l := ⟨_, true, .raw u7⟩ :: ⟨_, true, .raw (.bool x46)⟩ :: ⟨_, true, .raw (.bool (!x46))⟩ :: ⟨_, true, .raw (.bool (!x46))⟩ :: ⟨_, (true && ((!x46) == false)), .raw u8⟩ :: ⟨_, (true && ((!x46) == false)), .raw (.bool x48)⟩ :: ⟨_, (true && ((!x46) == false)), .raw (.bool (!x48))⟩ :: ⟨_, true, .raw (.bool x50)⟩ :: ⟨_, true, .raw (.bool x50)⟩ :: ⟨_, (true && (x50 == false)), .raw (.int .i64 x4.2.2.2)⟩ :: ⟨_, (true && (x50 == false)), .raw (.bool (decide (x4.2.2.2 < (1 : Int))))⟩ :: ⟨_, true, .raw (.bool x52)⟩ :: ⟨_, true, .raw (.bool x52)⟩ :: ⟨_, (true && (x52 == false)), .raw (.int .i64 x4.2.2.2)⟩ :: ⟨_, (true && (x52 == false)), .raw (.bool (decide ((1000 : Int) < x4.2.2.2)))⟩ :: ⟨_, true, .raw (.bool x54)⟩ :: []) (tl := []) (by kernel_rfl) (by kernel_rfl) (by kernel_rfl) ?_ ?_
     ·exact
       Obls.p (fun R' w' hw hs hd => of_move ((hs 4 rfl).trans h4)) <|
       Obls.p (fun R' w' hw hs hd => by have a0 : R' 107 = u7 := hd.g 0 rfl; have ra0 := (f_u7.fr hw).eq a0; exact of_call Tryz.call20 (M_spec_IsTokenSet_ok (q47 rfl) (hA.fr hw.size) ra0)) <|
       Obls.p (fun R' w' hw hs hd => by have a0 : R' 108 = .bool x46 := hd.g 0 rfl; exact of_not a0) <|
       Obls.p (fun R' w' hw hs hd => by have a0 : R' 109 = .bool (!x46) := hd.g 0 rfl; exact of_move a0) <|
       Obls.cons (Obl.grd 3 false _ _ _ rfl rfl rfl rfl rfl (by kernel_rfl) fun hg R' w' hw hs hd => by have a0 : R' 5 = u8 := (hs 5 rfl).trans h5; exact of_move a0) <|
       Obls.cons (Obl.grd 3 false _ _ _ rfl rfl rfl rfl rfl (by kernel_rfl) fun hg R' w' hw hs hd => by have a0 : R' 111 = u8 := hd 0 _ _ _ rfl rfl rfl rfl hg; have ra0 := (f_u8.fr hw).eq a0; exact of_call Tryz.call20 (M_spec_IsTokenSet_ok (q49 hg) (hA.fr hw.size) ra0)) <|
       Obls.cons (Obl.grd 3 false _ _ _ rfl rfl rfl rfl rfl (by kernel_rfl) fun hg R' w' hw hs hd => by have a0 : R' 112 = .bool x48 := hd 0 _ _ _ rfl rfl rfl rfl hg; exact of_not a0) <|
       Obls.p (fun R' w' hw hs hd => by have a0 : R' 110 = .bool (!x46) := hd.g 0 rfl; exact of_pick (!x46) a0 (fun hc => by show _ = Value.bool x50; rw [q51, hc]; exact rfl) (fun hc => by have a2 : R' 113 = .bool (!x48) := hd 1 _ _ _ rfl rfl rfl rfl (g_and rfl (beq_of hc)); show _ = Value.bool x50; rw [q51, hc]; exact a2)) <|
       Obls.p (fun R' w' hw hs hd => by have a0 : R' 114 = .bool x50 := hd.g 0 rfl; exact of_move a0) <|
       Obls.cons (Obl.grd 8 false _ _ _ rfl rfl rfl rfl rfl (by kernel_rfl) fun hg R' w' hw hs hd => by have a0 : R' 6 = .int .i64 x4.2.2.2 := (hs 6 rfl).trans h6; exact of_move a0) <|
       Obls.cons (Obl.grd 8 false _ _ _ rfl rfl rfl rfl rfl (by kernel_rfl) fun hg R' w' hw hs hd => by have a0 : R' 116 = .int .i64 x4.2.2.2 := hd 0 _ _ _ rfl rfl rfl rfl hg; exact of_lss a0 rfl) <|
       Obls.p (fun R' w' hw hs hd => by have a0 : R' 115 = .bool x50 := hd.g 0 rfl; exact of_pick x50 a0 (fun hc => by show _ = Value.bool x52; rw [q53, hc]; exact rfl) (fun hc => by have a2 : R' 117 = .bool (decide (x4.2.2.2 < (1 : Int))) := hd 1 _ _ _ rfl rfl rfl rfl (g_and rfl (beq_of hc)); show _ = Value.bool x52; rw [q53, hc]; exact a2)) <|
       Obls.p (fun R' w' hw hs hd => by have a0 : R' 118 = .bool x52 := hd.g 0 rfl; exact of_move a0) <|
       Obls.cons (Obl.grd 12 false _ _ _ rfl rfl rfl rfl rfl (by kernel_rfl) fun hg R' w' hw hs hd => by have a0 : R' 6 = .int .i64 x4.2.2.2 := (hs 6 rfl).trans h6; exact of_move a0) <|
       Obls.cons (Obl.grd 12 false _ _ _ rfl rfl rfl rfl rfl (by kernel_rfl) fun hg R' w' hw hs hd => by have a0 : R' 120 = .int .i64 x4.2.2.2 := hd 0 _ _ _ rfl rfl rfl rfl hg; exact of_gtr a0 rfl) <|
       Obls.p (fun R' w' hw hs hd => by have a0 : R' 119 = .bool x52 := hd.g 0 rfl; exact of_pick x52 a0 (fun hc => by show _ = Value.bool x54; rw [q55, hc]; exact rfl) (fun hc => by have a2 : R' 121 = .bool (decide ((1000 : Int) < x4.2.2.2)) := hd 1 _ _ _ rfl rfl rfl rfl (g_and rfl (beq_of hc)); show _ = Value.bool x54; rw [q55, hc]; exact a2)) <|
       Obls.nil
     intro R w hw hs hF'
     replace h3 := (hs 3 rfl).trans h3
     replace h4 := (hs 4 rfl).trans h4
     replace h5 := (hs 5 rfl).trans h5
     replace h6 := (hs 6 rfl).trans h6
     replace h7 := (hs 7 rfl).trans h7
     replace h8 := (hs 8 rfl).trans h8
     replace h9 := (hs 9 rfl).trans h9
     replace h10 := (hs 10 rfl).trans h10
     replace h13 := (hs 13 rfl).trans h13
     have h122 : R 122 = .bool x54 := hF' 15 _ _ rfl rfl rfl
     replace f_u6 := f_u6.fr hw
     replace f_u7 := f_u7.fr hw
     replace f_u8 := f_u8.fr hw
     replace hA := hA.fr hw.size
     replace hF := hF.trans hw
     clear hs hF' hw
     refine seqR_nil ?_
     refine HT.cond x54 h122 (fun c56 => ?_) (fun c56 => ?_)
     ·have hr := cnd_t c56 hr
      refine HT.seq ?_
      refine HT.text (l := ⟨_, true, .raw (.bool x22)⟩ :: ⟨_, true, .raw (.bool (!x22))⟩ :: ⟨_, true, .raw (.bool (!x22))⟩ :: []) (tl := []) (by kernel_rfl) (by kernel_rfl) (by kernel_rfl) ?_ ?_
      ·exact
        Obls.p (fun R' w' hw hs hd => of_move ((hs 8 rfl).trans h8)) <|
        Obls.p (fun R' w' hw hs hd => by have a0 : R' 123 = .bool x22 := hd.g 0 rfl; exact of_not a0) <|
        Obls.p (fun R' w' hw hs hd => by have a0 : R' 124 = .bool (!x22) := hd.g 0 rfl; exact of_assign a0) <|
        Obls.nil
      intro R w hw hs hF'
      have h2 : R 2 = .bool (!x22) := hF' 2 _ _ rfl rfl rfl
      replace hA := hA.fr hw.size
      replace hF := hF.trans hw
      clear hs hF' hw
      refine seqR_nil ?_
      refine HT.ret ?_
      obtain rfl := Option.some.inj hr
      exact ⟨.inr rfl, [R 2], ⟨rfl, trivial⟩, h2, hF⟩
     ·have hr := cnd_f c56 hr
      refine HT.skip ?_
      refine HT.seq ?_
      obtain ⟨x57, q58, hr⟩ := cl_some hr
      refine HT.text (l := ⟨_, true, .raw u7⟩ :: ⟨_, true, .raw u8⟩ :: ⟨_, true, .rep (eSl eStr) A x57⟩ :: ⟨_, true, .raw (.int .i64 (x57.length : Int))⟩ :: ⟨_, true, .raw (.int .i64 (x57.length : Int))⟩ :: []) (tl := []) (by kernel_rfl) (by kernel_rfl) (by kernel_rfl) ?_ ?_
      ·exact
        Obls.p (fun R' w' hw hs hd => of_move ((hs 4 rfl).trans h4)) <|
        Obls.p (fun R' w' hw hs hd => of_move ((hs 5 rfl).trans h5)) <|
        Obls.p (fun R' w' hw hs hd => by have a0 : R' 125 = u7 := hd.g 0 rfl; have ra0 := (f_u7.fr hw).eq a0; have a1 : R' 126 = u8 := hd.g 1 rfl; have ra1 := (f_u8.fr hw).eq a1; exact of_call Tryz.call21 (M_spec_CommonTokens_okR (q58 rfl) (hA.fr hw.size) ra0 ra1)) <|
        Obls.p (fun R' w' hw hs hd => by have a0 : Rep (eSl eStr) A w' (R' 127) x57 := hd.g 0 rfl; exact of_len_sl (aT := #[]) a0 Tryz.underlying25) <|
        Obls.p (fun R' w' hw hs hd => by have a0 : R' 128 = .int .i64 (x57.length : Int) := hd.g 0 rfl; exact of_assign a0) <|
        Obls.nil
      intro R w hw hs hF'
      replace h3 := (hs 3 rfl).trans h3
      replace h4 := (hs 4 rfl).trans h4
      replace h5 := (hs 5 rfl).trans h5
      replace h6 := (hs 6 rfl).trans h6
      replace h7 := (hs 7 rfl).trans h7
      replace h8 := (hs 8 rfl).trans h8
      replace h9 := (hs 9 rfl).trans h9
      replace h10 := (hs 10 rfl).trans h10
      replace h13 := (hs 13 rfl).trans h13
      have h14 : R 14 = .int .i64 (x57.length : Int) := hF' 4 _ _ rfl rfl rfl
      replace f_u6 := f_u6.fr hw
      replace f_u7 := f_u7.fr hw
      replace f_u8 := f_u8.fr hw
      replace hA := hA.fr hw.size
      replace hF := hF.trans hw
      clear hs hF' hw
      refine seqR_nil ?_
      refine HT.seq ?_
      refine HT.seq ?_
      obtain ⟨x59, q60, hr⟩ := bd_some hr
      obtain ⟨x61, q62, hr⟩ := bd_some hr
      obtain ⟨x63, q64, hr⟩ := bd_some hr
      refine HT.text (l := ⟨_, true, .raw (.bool x22)⟩ :: ⟨_, true, .raw (.int .i64 (x57.length : Int))⟩ :: ⟨_, true, .raw (.int .i64 x31)⟩ :: ⟨_, true, .raw (.bool (decide (x31 ≤ (x57.length : Int))))⟩ :: ⟨_, true, .raw (.bool (x22 != (decide (x31 ≤ (x57.length : Int)))))⟩ :: ⟨_, true, .raw (.bool (x22 != (decide (x31 ≤ (x57.length : Int)))))⟩ :: ⟨_, (true && ((x22 != (decide (x31 ≤ (x57.length : Int)))) == false)), .raw (.bool x22)⟩ :: ⟨_, (true && ((x22 != (decide (x31 ≤ (x57.length : Int)))) == false)), .raw (.bool x22)⟩ :: ⟨_, ((true && ((x22 != (decide (x31 ≤ (x57.length : Int)))) == false)) && (x22 == true)), .raw u8⟩ :: ⟨_, ((true && ((x22 != (decide (x31 ≤ (x57.length : Int)))) == false)) && (x22 == true)), .raw (.int .i64 (x4.2.2.1.length : Int))⟩ :: ⟨_, ((true && ((x22 != (decide (x31 ≤ (x57.length : Int)))) == false)) && (x22 == true)), .raw (.int .i64 x27.1)⟩ :: ⟨_, ((true && ((x22 != (decide (x31 ≤ (x57.length : Int)))) == false)) && (x22 == true)), .raw (.bool (decide ((x4.2.2.1.length : Int) < x27.1)))⟩ :: ⟨_, ((true && ((x22 != (decide (x31 ≤ (x57.length : Int)))) == false)) && (x22 == true)), .raw (.bool (decide ((x4.2.2.1.length : Int) < x27.1)))⟩ :: ⟨_, (((true && ((x22 != (decide (x31 ≤ (x57.length : Int)))) == false)) && (x22 == true)) && ((decide ((x4.2.2.1.length : Int) < x27.1)) == false)), .raw u8⟩ :: ⟨_, (((true && ((x22 != (decide (x31 ≤ (x57.length : Int)))) == false)) && (x22 == true)) && ((decide ((x4.2.2.1.length : Int) < x27.1)) == false)), .raw (.int .i64 (x4.2.2.1.length : Int))⟩ :: ⟨_, (((true && ((x22 != (decide (x31 ≤ (x57.length : Int)))) == false)) && (x22 == true)) && ((decide ((x4.2.2.1.length : Int) < x27.1)) == false)), .raw (.int .i64 x27.2)⟩ :: ⟨_, (((true && ((x22 != (decide (x31 ≤ (x57.length : Int)))) == false)) && (x22 == true)) && ((decide ((x4.2.2.1.length : Int) < x27.1)) == false)), .raw (.bool (decide (x27.2 < (x4.2.2.1.length : Int))))⟩ :: ⟨_, ((true && ((x22 != (decide (x31 ≤ (x57.length : Int)))) == false)) && (x22 == true)), .raw (.bool x59)⟩ :: ⟨_, (true && ((x22 != (decide (x31 ≤ (x57.length : Int)))) == false)), .raw (.bool x61)⟩ :: ⟨_, true, .raw (.bool x63)⟩ :: []) (tl := []) (by kernel_rfl) (by kernel_rfl) (by kernel_rfl) ?_ ?_
      ·exact
        Obls.p (fun R' w' hw hs hd => of_move ((hs 8 rfl).trans h8)) <|
        Obls.p (fun R' w' hw hs hd => of_move ((hs 14 rfl).trans h14)) <|
        Obls.p (fun R' w' hw hs hd => of_move ((hs 13 rfl).trans h13)) <|
        Obls.p (fun R' w' hw hs hd => by have a0 : R' 130 = .int .i64 (x57.length : Int) := hd.g 0 rfl; have a1 : R' 131 = .int .i64 x31 := hd.g 1 rfl; exact of_geq a0 a1) <|
        Obls.p (fun R' w' hw hs hd => by have a0 : R' 129 = .bool x22 := hd.g 0 rfl; have a1 : R' 132 = .bool (decide (x31 ≤ (x57.length : Int))) := hd.g 1 rfl; exact of_bneq Tryz.underlying4 a0 a1) <|
        Obls.p (fun R' w' hw hs hd => by have a0 : R' 133 = .bool (x22 != (decide (x31 ≤ (x57.length : Int)))) := hd.g 0 rfl; exact of_move a0) <|
        Obls.cons (Obl.grd 5 false _ _ _ rfl rfl rfl rfl rfl (by kernel_rfl) fun hg R' w' hw hs hd => by have a0 : R' 8 = .bool x22 := (hs 8 rfl).trans h8; exact of_move a0) <|
        Obls.cons (Obl.grd 5 false _ _ _ rfl rfl rfl rfl rfl (by kernel_rfl) fun hg R' w' hw hs hd => by have a0 : R' 135 = .bool x22 := hd 0 _ _ _ rfl rfl rfl rfl hg; exact of_move a0) <|
        Obls.cons (Obl.grd 7 true _ _ _ rfl rfl rfl rfl rfl (by kernel_rfl) fun hg R' w' hw hs hd => by have a0 : R' 5 = u8 := (hs 5 rfl).trans h5; exact of_move a0) <|
        Obls.cons (Obl.grd 7 true _ _ _ rfl rfl rfl rfl rfl (by kernel_rfl) fun hg R' w' hw hs hd => by have a0 : R' 137 = u8 := hd 0 _ _ _ rfl rfl rfl rfl hg; have ra0 := (f_u8.fr hw).eq a0; exact of_len_sl (aT := #[]) ra0 Tryz.underlying25) <|
        Obls.cons (Obl.grd 7 true _ _ _ rfl rfl rfl rfl rfl (by kernel_rfl) fun hg R' w' hw hs hd => by have a0 : R' 9 = .int .i64 x27.1 := (hs 9 rfl).trans h9; exact of_move a0) <|
        Obls.cons (Obl.grd 7 true _ _ _ rfl rfl rfl rfl rfl (by kernel_rfl) fun hg R' w' hw hs hd => by have a0 : R' 138 = .int .i64 (x4.2.2.1.length : Int) := hd 0 _ _ _ rfl rfl rfl rfl hg; have a1 : R' 139 = .int .i64 x27.1 := hd 1 _ _ _ rfl rfl rfl rfl hg; exact of_lss a0 a1) <|
        Obls.cons (Obl.grd 7 true _ _ _ rfl rfl rfl rfl rfl (by kernel_rfl) fun hg R' w' hw hs hd => by have a0 : R' 140 = .bool (decide ((x4.2.2.1.length : Int) < x27.1)) := hd 0 _ _ _ rfl rfl rfl rfl hg; exact of_move a0) <|
        Obls.cons (Obl.grd 12 false _ _ _ rfl rfl rfl rfl rfl (by kernel_rfl) fun hg R' w' hw hs hd => by have a0 : R' 5 = u8 := (hs 5 rfl).trans h5; exact of_move a0) <|
        Obls.cons (Obl.grd 12 false _ _ _ rfl rfl rfl rfl rfl (by kernel_rfl) fun hg R' w' hw hs hd => by have a0 : R' 142 = u8 := hd 0 _ _ _ rfl rfl rfl rfl hg; have ra0 := (f_u8.fr hw).eq a0; exact of_len_sl (aT := #[]) ra0 Tryz.underlying25) <|
        Obls.cons (Obl.grd 12 false _ _ _ rfl rfl rfl rfl rfl (by kernel_rfl) fun hg R' w' hw hs hd => by have a0 : R' 10 = .int .i64 x27.2 := (hs 10 rfl).trans h10; exact of_move a0) <|
        Obls.cons (Obl.grd 12 false _ _ _ rfl rfl rfl rfl rfl (by kernel_rfl) fun hg R' w' hw hs hd => by have a0 : R' 143 = .int .i64 (x4.2.2.1.length : Int) := hd 0 _ _ _ rfl rfl rfl rfl hg; have a1 : R' 144 = .int .i64 x27.2 := hd 1 _ _ _ rfl rfl rfl rfl hg; exact of_gtr a0 a1) <|
        Obls.cons (Obl.grd 7 true _ _ _ rfl rfl rfl rfl rfl (by kernel_rfl) fun hg R' w' hw hs hd => by have a0 : R' 141 = .bool (decide ((x4.2.2.1.length : Int) < x27.1)) := hd 0 _ _ _ rfl rfl rfl rfl hg; exact of_pick (decide ((x4.2.2.1.length : Int) < x27.1)) a0 (fun hc => by show _ = Value.bool x59; rw [q60, hc]; exact rfl) (fun hc => by have a2 : R' 145 = .bool (decide (x27.2 < (x4.2.2.1.length : Int))) := hd 1 _ _ _ rfl rfl rfl rfl (g_and hg (beq_of hc)); show _ = Value.bool x59; rw [q60, hc]; exact a2)) <|
        Obls.cons (Obl.grd 5 false _ _ _ rfl rfl rfl rfl rfl (by kernel_rfl) fun hg R' w' hw hs hd => by have a0 : R' 136 = .bool x22 := hd 0 _ _ _ rfl rfl rfl rfl hg; exact of_pick x22 a0 (fun hc => by have a1 : R' 146 = .bool x59 := hd 1 _ _ _ rfl rfl rfl rfl (g_and hg (beq_of hc)); show _ = Value.bool x61; rw [q62, hc]; exact a1) (fun hc => by show _ = Value.bool x61; rw [q62, hc]; exact rfl)) <|
        Obls.p (fun R' w' hw hs hd => by have a0 : R' 134 = .bool (x22 != (decide (x31 ≤ (x57.length : Int)))) := hd.g 0 rfl; exact of_pick (x22 != (decide (x31 ≤ (x57.length : Int)))) a0 (fun hc => by show _ = Value.bool x63; rw [q64, hc]; exact rfl) (fun hc => by have a2 : R' 147 = .bool x61 := hd 1 _ _ _ rfl rfl rfl rfl (g_and rfl (beq_of hc)); show _ = Value.bool x63; rw [q64, hc]; exact a2)) <|
        Obls.nil
      intro R w hw hs hF'
      replace h3 := (hs 3 rfl).trans h3
      replace h4 := (hs 4 rfl).trans h4
      replace h5 := (hs 5 rfl).trans h5
      replace h6 := (hs 6 rfl).trans h6
      replace h7 := (hs 7 rfl).trans h7
      replace h8 := (hs 8 rfl).trans h8
      have h148 : R 148 = .bool x63 := hF' 19 _ _ rfl rfl rfl
      replace f_u6 := f_u6.fr hw
      replace f_u7 := f_u7.fr hw
      replace f_u8 := f_u8.fr hw
      replace hA := hA.fr hw.size
      replace hF := hF.trans hw
      clear hs hF' hw
      refine seqR_nil ?_
      refine HT.cond x63 h148 (fun c65 => ?_) (fun c65 => ?_)
      ·have hr := cnd_t c65 hr
       refine HT.seq ?_
       refine HT.text (l := ⟨_, true, .raw (.bool false)⟩ :: []) (tl := []) (by kernel_rfl) (by kernel_rfl) (by kernel_rfl) ?_ ?_
       ·exact
         Obls.p (fun R' w' hw hs hd => of_assign rfl) <|
         Obls.nil
       intro R w hw hs hF'
       have h2 : R 2 = .bool false := hF' 0 _ _ rfl rfl rfl
       replace hA := hA.fr hw.size
       replace hF := hF.trans hw
       clear hs hF' hw
       refine seqR_nil ?_
       refine HT.ret ?_
       obtain rfl := Option.some.inj hr
       exact ⟨.inr rfl, [R 2], ⟨rfl, trivial⟩, h2, hF⟩
      ·have hr := cnd_f c65 hr
       refine HT.skip ?_
       refine HT.seq ?_
       refine HT.seq ?_
       obtain ⟨x66, q67, hr⟩ := cl_some hr
       obtain ⟨x68, q69, hr⟩ := cl_some hr
       refine HT.text (l := ⟨_, true, .raw u6⟩ :: ⟨_, true, .raw u7⟩ :: ⟨_, true, .raw (.int .i64 x4.2.2.2)⟩ :: ⟨_, true, .rep (eSl eStr) A x66⟩ :: ⟨_, true, .raw (.int .i64 (x66.length : Int))⟩ :: ⟨_, true, .raw u7⟩ :: ⟨_, true, .raw (.int .i64 (x4.2.1.length : Int))⟩ :: ⟨_, true, .raw (.int .i64 x4.2.2.2)⟩ :: ⟨_, true, .raw (.int .i64 x68)⟩ :: ⟨_, true, .raw (.bool ((x66.length : Int) != x68))⟩ :: []) (tl := []) (by kernel_rfl) (by kernel_rfl) (by kernel_rfl) ?_ ?_
       ·exact
         Obls.p (fun R' w' hw hs hd => of_move ((hs 3 rfl).trans h3)) <|
         Obls.p (fun R' w' hw hs hd => of_move ((hs 4 rfl).trans h4)) <|
         Obls.p (fun R' w' hw hs hd => of_move ((hs 6 rfl).trans h6)) <|
         Obls.p (fun R' w' hw hs hd => by have a0 : R' 149 = u6 := hd.g 0 rfl; have ra0 := (f_u6.fr hw).eq a0; have a1 : R' 150 = u7 := hd.g 1 rfl; have ra1 := (f_u7.fr hw).eq a1; have a2 : R' 151 = .int .i64 x4.2.2.2 := hd.g 2 rfl; exact of_call Tryz.call10 (M_impl_PrefixTokens_okR (q67 rfl) (hA.fr hw.size) ra0 ra1 a2)) <|
         Obls.p (fun R' w' hw hs hd => by have a0 : Rep (eSl eStr) A w' (R' 152) x66 := hd.g 0 rfl; exact of_len_sl (aT := #[]) a0 Tryz.underlying25) <|
         Obls.p (fun R' w' hw hs hd => of_move ((hs 4 rfl).trans h4)) <|
         Obls.p (fun R' w' hw hs hd => by have a0 : R' 154 = u7 := hd.g 0 rfl; have ra0 := (f_u7.fr hw).eq a0; exact of_len_sl (aT := #[]) ra0 Tryz.underlying25) <|
         Obls.p (fun R' w' hw hs hd => of_move ((hs 6 rfl).trans h6)) <|
         Obls.p (fun R' w' hw hs hd => by have a0 : R' 155 = .int .i64 (x4.2.1.length : Int) := hd.g 0 rfl; have a1 : R' 156 = .int .i64 x4.2.2.2 := hd.g 1 rfl; exact of_call Tryz.call19 (M_spec_PrefixLength_ok (q69 rfl) (hA.fr hw.size) a0 a1)) <|
         Obls.p (fun R' w' hw hs hd => by have a0 : R' 153 = .int .i64 (x66.length : Int) := hd.g 0 rfl; have a1 : R' 157 = .int .i64 x68 := hd.g 1 rfl; exact of_neq a0 a1) <|
         Obls.nil
       intro R w hw hs hF'
       replace h4 := (hs 4 rfl).trans h4
       replace h5 := (hs 5 rfl).trans h5
       replace h7 := (hs 7 rfl).trans h7
       replace h8 := (hs 8 rfl).trans h8
       have h158 : R 158 = .bool ((x66.length : Int) != x68) := hF' 9 _ _ rfl rfl rfl
       replace f_u7 := f_u7.fr hw
       replace f_u8 := f_u8.fr hw
       replace hA := hA.fr hw.size
       replace hF := hF.trans hw
       clear hs hF' hw
       refine seqR_nil ?_
       refine HT.cond ((x66.length : Int) != x68) h158 (fun c70 => ?_) (fun c70 => ?_)
       ·have hr := cnd_t c70 hr
        refine HT.seq ?_
        refine HT.text (l := ⟨_, true, .raw (.bool false)⟩ :: []) (tl := []) (by kernel_rfl) (by kernel_rfl) (by kernel_rfl) ?_ ?_
        ·exact
          Obls.p (fun R' w' hw hs hd => of_assign rfl) <|
          Obls.nil
        intro R w hw hs hF'
        have h2 : R 2 = .bool false := hF' 0 _ _ rfl rfl rfl
        replace hA := hA.fr hw.size
        replace hF := hF.trans hw
        clear hs hF' hw
        refine seqR_nil ?_
        refine HT.ret ?_
        obtain rfl := Option.some.inj hr
        exact ⟨.inr rfl, [R 2], ⟨rfl, trivial⟩, h2, hF⟩
       ·have hr := cnd_f c70 hr
        refine HT.skip ?_
        refine HT.seq ?_
        obtain ⟨e71, hr⟩ := ck_some hr
        obtain ⟨x72, q73, hr⟩ := bd_some hr
        obtain ⟨x74, q75, hr⟩ := bd_some hr
        refine HT.text (l := ⟨_, true, .raw (.bool x22)⟩ :: ⟨_, true, .raw (.bool (!x22))⟩ :: ⟨_, true, .raw (.bool (!x22))⟩ :: ⟨_, (true && ((!x22) == false)), .raw u7⟩ :: ⟨_, (true && ((!x22) == false)), .raw (.int .i64 (x4.2.1.length : Int))⟩ :: ⟨_, (true && ((!x22) == false)), .raw u8⟩ :: ⟨_, (true && ((!x22) == false)), .raw (.int .i64 (x4.2.2.1.length : Int))⟩ :: ⟨_, (true && ((!x22) == false)), .raw (.int .i64 ((x4.2.1.length : Int) + (x4.2.2.1.length : Int)))⟩ :: ⟨_, (true && ((!x22) == false)), .raw (.bool (((x4.2.1.length : Int) + (x4.2.2.1.length : Int)) == (0 : Int)))⟩ :: ⟨_, true, .raw (.bool x72)⟩ :: ⟨_, true, .raw (.bool x72)⟩ :: ⟨_, (true && (x72 == false)), .raw (.bool x9)⟩ :: ⟨_, true, .raw (.bool x74)⟩ :: ⟨_, true, .raw (.bool x74)⟩ :: []) (tl := []) (by kernel_rfl) (by kernel_rfl) (by kernel_rfl) ?_ ?_
        ·exact
          Obls.p (fun R' w' hw hs hd => of_move ((hs 8 rfl).trans h8)) <|
          Obls.p (fun R' w' hw hs hd => by have a0 : R' 159 = .bool x22 := hd.g 0 rfl; exact of_not a0) <|
          Obls.p (fun R' w' hw hs hd => by have a0 : R' 160 = .bool (!x22) := hd.g 0 rfl; exact of_move a0) <|
          Obls.cons (Obl.grd 2 false _ _ _ rfl rfl rfl rfl rfl (by kernel_rfl) fun hg R' w' hw hs hd => by have a0 : R' 4 = u7 := (hs 4 rfl).trans h4; exact of_move a0) <|
          Obls.cons (Obl.grd 2 false _ _ _ rfl rfl rfl rfl rfl (by kernel_rfl) fun hg R' w' hw hs hd => by have a0 : R' 162 = u7 := hd 0 _ _ _ rfl rfl rfl rfl hg; have ra0 := (f_u7.fr hw).eq a0; exact of_len_sl (aT := #[]) ra0 Tryz.underlying25) <|
          Obls.cons (Obl.grd 2 false _ _ _ rfl rfl rfl rfl rfl (by kernel_rfl) fun hg R' w' hw hs hd => by have a0 : R' 5 = u8 := (hs 5 rfl).trans h5; exact of_move a0) <|
          Obls.cons (Obl.grd 2 false _ _ _ rfl rfl rfl rfl rfl (by kernel_rfl) fun hg R' w' hw hs hd => by have a0 : R' 164 = u8 := hd 0 _ _ _ rfl rfl rfl rfl hg; have ra0 := (f_u8.fr hw).eq a0; exact of_len_sl (aT := #[]) ra0 Tryz.underlying25) <|
          Obls.cons (Obl.grd 2 false _ _ _ rfl rfl rfl rfl rfl (by kernel_rfl) fun hg R' w' hw hs hd => by have a0 : R' 163 = .int .i64 (x4.2.1.length : Int) := hd 0 _ _ _ rfl rfl rfl rfl hg; have a1 : R' 165 = .int .i64 (x4.2.2.1.length : Int) := hd 1 _ _ _ rfl rfl rfl rfl hg; exact of_add a0 a1 (gd e71 hg)) <|
          Obls.cons (Obl.grd 2 false _ _ _ rfl rfl rfl rfl rfl (by kernel_rfl) fun hg R' w' hw hs hd => by have a0 : R' 166 = .int .i64 ((x4.2.1.length : Int) + (x4.2.2.1.length : Int)) := hd 0 _ _ _ rfl rfl rfl rfl hg; exact of_eql a0 rfl) <|
          Obls.p (fun R' w' hw hs hd => by have a0 : R' 161 = .bool (!x22) := hd.g 0 rfl; exact of_pick (!x22) a0 (fun hc => by show _ = Value.bool x72; rw [q73, hc]; exact rfl) (fun hc => by have a2 : R' 167 = .bool (((x4.2.1.length : Int) + (x4.2.2.1.length : Int)) == (0 : Int)) := hd 1 _ _ _ rfl rfl rfl rfl (g_and rfl (beq_of hc)); show _ = Value.bool x72; rw [q73, hc]; exact a2)) <|
          Obls.p (fun R' w' hw hs hd => by have a0 : R' 168 = .bool x72 := hd.g 0 rfl; exact of_move a0) <|
          Obls.cons (Obl.grd 10 false _ _ _ rfl rfl rfl rfl rfl (by kernel_rfl) fun hg R' w' hw hs hd => by have a0 : R' 7 = .bool x9 := (hs 7 rfl).trans h7; exact of_move a0) <|
          Obls.p (fun R' w' hw hs hd => by have a0 : R' 169 = .bool x72 := hd.g 0 rfl; exact of_pick x72 a0 (fun hc => by show _ = Value.bool x74; rw [q75, hc]; exact rfl) (fun hc => by have a2 : R' 170 = .bool x9 := hd 1 _ _ _ rfl rfl rfl rfl (g_and rfl (beq_of hc)); show _ = Value.bool x74; rw [q75, hc]; exact a2)) <|
          Obls.p (fun R' w' hw hs hd => by have a0 : R' 171 = .bool x74 := hd.g 0 rfl; exact of_assign a0) <|
          Obls.nil
        intro R w hw hs hF'
        have h2 : R 2 = .bool x74 := hF' 13 _ _ rfl rfl rfl
        replace hA := hA.fr hw.size
        replace hF := hF.trans hw
        clear hs hF' hw
        refine seqR_nil ?_
        refine HT.ret ?_
        obtain rfl := Option.some.inj hr
        exact ⟨.inr rfl, [R 2], ⟨rfl, trivial⟩, h2, hF⟩
end Go.Proofs.YtkebpojbbfnehaaGreat
