/- Printed by dec.py: plain functions and the proofs that the code computes them. No statement of the seat is proved here. -/
import Derived.Test.YtcodfkieaoomnaaDoorI1
namespace Go.Proofs.YtcodfkieaoomnaaDoor
open Go.RowKit
set_option linter.unusedVariables false
set_option maxRecDepth 100000
set_option maxHeartbeats 4000000
def M_impl_ParseFeatures_L0 (fu : Nat) (x2 : List (List UInt8)) : Nat → Int → (List Int) → Option (Ex ((List Int) × Bool) (List Int))
 | 0, _, _ => none
 | k + 1, y8, y9 =>
  bif (decide (y8 < (x2.length : Int))) then (
   ck (inR y8 x2.length) <|
   cl true (M_cut fu (gtD x2 y8) ([61] : List UInt8)) fun x13 =>
   cl true (M_impl_ParseInt fu x13.2.1) fun x16 =>
   bif (!x16.2) then (
    some (Ex.ret (([] : List Int), false))
   ) else (
    ck (lenOK (y9.length + ([x16.1] : List Int).length)) <|
    ck (i64B (y8 + (1 : Int))) <|
    M_impl_ParseFeatures_L0 fu x2 k (y8 + (1 : Int)) (y9 ++ ([x16.1] : List Int))
   )
  ) else (
   some (Ex.go y9)
  )
def M_impl_ParseFeatures (fu : Nat) (p0 : List UInt8) : Option ((List Int) × Bool) :=
 cl true (M_split fu p0 ([32] : List UInt8)) fun x2 =>
 cl true (M_impl_ParseFeatures_L0 fu x2 fu (0 : Int) ([] : List Int)) fun rl5 =>
 exM rl5 (fun r => some r) fun s7 =>
 cl true (M_impl_FormatFeatures fu s7) fun x23 =>
 bif (!(x23 == p0)) then (
  some (([] : List Int), false)
 ) else (
  some (s7, true)
 )
theorem M_impl_ParseFeatures_ok {fu : Nat} {A0 : Av} {p0 : List UInt8} {r : (List Int) × Bool} (hr : M_impl_ParseFeatures fu p0 = some r) {w : World} {v0 : Value} (hA : AvOK A0 w) (hG : GTab w) (h0 : Rep eStr A0 w v0 p0) :
  Calls Tryd.prog 6 #[v0] w fun e w' => ∃ v, e = .returned v ∧ (∃ (u0 : Value) (A1 : Av), GPost A0 (fun _ => False) w [ob u0 (.vec w.heap.size 3 (eInt .i64) r.1)] A1 w' ∧ (Fact.tup2 (.raw u0) (.raw (.bool r.2))).ok v w') := by
 unfold M_impl_ParseFeatures at hr
 obtain ⟨w0, hw0⟩ : ∃ w0, w0 = w := ⟨_, rfl⟩
 have hF : Fr w0 w := hw0 ▸ Fr.refl _
 have hA0 : ∀ b o, A0 b o → b < w0.heap.size := fun b o h => hw0 ▸ hA b o h
 have hA00 : AvOK A0 w0 := hA0
 rw [show GPost A0 (fun _ => False) w = GPost A0 (fun _ => False) w0 from by rw [hw0]]
 rw [show w.heap.size = w0.heap.size from by rw [hw0]]
 have hG0 : GTab w0 := hw0 ▸ hG
 clear hw0
 obtain ⟨A, hAe⟩ : ∃ A, A = A0 := ⟨_, rfl⟩
 have hAA : ∀ b o, A0 b o → A b o := fun b o h => hAe ▸ h
 replace hA : AvOK A w := hAe ▸ hA
 have hO : IniOK [] A w := IniOK.nil
 refine calls_of_HT2 [.tmp 2, .tmp 3] Tryd.func6 Tryd.ntmps6 (by decide) rfl rfl (Nat.le_of_ble_eq_true rfl) ?_
 intro R hR
 have f_v0 : Rep eStr A w v0 p0 := hAe ▸ h0
 replace h0 : R 0 = v0 := hR 0 _ rfl
 clear hR hAe
 refine HT.seq ?_
 refine HT.text (l := ⟨_, true, .any⟩ :: ⟨_, true, .raw (.bool false)⟩ :: []) (tl := []) (by kernel_rfl) (by kernel_rfl) (by kernel_rfl) ?_ ?_
 ·exact
   Obls.p (fun R' w' hw hs hd => of_assign trivial) <|
   Obls.p (fun R' w' hw hs hd => of_assign rfl) <|
   Obls.nil
 intro R w hw hs hF'
 replace h0 := (hs 0 rfl).trans h0
 replace f_v0 := f_v0.fr hw
 replace hO := hO.fr hw
 replace hA := hA.fr hw.size
 replace hF := hF.trans hw
 clear hs hF' hw
 refine seqR_nil ?_
 refine HT.seq ?_
 refine HT.text (l := ⟨_, true, .raw (.slice none 0 0)⟩ :: []) (tl := []) (by kernel_rfl) (by kernel_rfl) (by kernel_rfl) ?_ ?_
 ·exact
   Obls.p (fun R' w' hw hs hd => of_assign rfl) <|
   Obls.nil
 intro R w hw hs hF'
 replace h0 := (hs 0 rfl).trans h0
 obtain ⟨u1, n_u1⟩ : ∃ u, u = Value.slice none 0 0 := ⟨_, rfl⟩
 have h4 : R 4 = u1 := (hF' 0 _ _ rfl rfl rfl).trans n_u1.symm
 replace f_v0 := f_v0.fr hw
 replace hO := hO.fr hw
 replace hA := hA.fr hw.size
 replace hF := hF.trans hw
 clear hs hF' hw
 refine seqR_nil ?_
 replace hO := hO.nilcons (u := u1) n_u1 w0.heap.size 3 (eInt .i64)
 refine HT.seq ?_
 refine HT.seq ?_
 obtain ⟨x2, q3, hr⟩ := cl_some hr
 refine HT.text (l := ⟨_, true, .raw v0⟩ :: ⟨_, true, .rep (eSl eStr) A x2⟩ :: ⟨_, true, .raw (.int .i64 (x2.length : Int))⟩ :: ⟨_, true, .raw (.int .i64 (0 : Int))⟩ :: []) (tl := []) (by kernel_rfl) (by kernel_rfl) (by kernel_rfl) ?_ ?_
 ·exact
   Obls.p (fun R' w' hw hs hd => of_move ((hs 0 rfl).trans h0)) <|
   Obls.p (fun R' w' hw hs hd => by have a0 : R' 12 = v0 := hd.g 0 rfl; have ra0 := (f_v0.fr hw).eq a0; exact of_call Tryd.call18 (M_split_ok (q3 rfl) (hA.fr hw.size) (hG0.fr (hF.trans hw)) ra0 ⟨_, rfl, ⟨_, rfl, rfl, by decide⟩⟩)) <|
   Obls.p (fun R' w' hw hs hd => by have a0 : Rep (eSl eStr) A w' (R' 13) x2 := hd.g 0 rfl; exact of_len_sl (aT := #[]) a0 Tryd.underlying35) <|
   Obls.p (fun R' w' hw hs hd => of_move rfl) <|
   Obls.nil
 intro R w hw hs hF'
 replace h0 := (hs 0 rfl).trans h0
 replace h4 := (hs 4 rfl).trans h4
 obtain ⟨u4, h13, f_u4⟩ : ∃ u, R 13 = u ∧ Rep (eSl eStr) A w u x2 := ⟨_, rfl, hF' 1 _ _ rfl rfl rfl⟩
 have h14 : R 14 = .int .i64 (x2.length : Int) := hF' 2 _ _ rfl rfl rfl
 have h15 : R 15 = .int .i64 (0 : Int) := hF' 3 _ _ rfl rfl rfl
 replace f_v0 := f_v0.fr hw
 replace hO := hO.fr hw
 replace hA := hA.fr hw.size
 replace hF := hF.trans hw
 clear hs hF' hw
 refine seqR_nil ?_
 obtain ⟨rl5, q6, hr⟩ := cl_some hr
 replace q6 := q6 rfl
 refine HT.cut0 (fun R w => ∃ A : Av, ∃ (s7 : (List Int)) (uo_u1 : Value), rl5 = Ex.go s7 ∧ AvOK A w ∧ Fr w0 w ∧ (∀ b o, A0 b o → A b o) ∧ IniOK [ob uo_u1 (.vec w0.heap.size 3 (eInt .i64) s7)] A w ∧ R 0 = v0 ∧ R 4 = uo_u1 ∧ Rep eStr A w v0 p0) ?_ ?_
 ·refine HT.block ?_
  refine HT.loop (fun k R w => ∃ A : Av, ∃ (y8 : Int) (y9 : List Int) (ul_u1 : Value), M_impl_ParseFeatures_L0 fu x2 k y8 y9 = some rl5 ∧ AvOK A w ∧ Fr w0 w ∧ (∀ b o, A0 b o → A b o) ∧ IniOK [ob ul_u1 (.vec w0.heap.size 3 (eInt .i64) y9)] A w ∧ R 0 = v0 ∧ R 4 = ul_u1 ∧ R 13 = u4 ∧ R 14 = .int .i64 (x2.length : Int) ∧ R 15 = .int .i64 y8 ∧ Rep (eSl eStr) A w u4 x2 ∧ Rep eStr A w v0 p0) fu ⟨_, _, _, u1, q6, hA, hF, hAA, hO, h0, h4, h13, h14, h15, f_u4, f_v0⟩ ?_
  have hr0 := hr; clear hr q6
  rintro k R w ⟨A, y8, y9, ul_u1, hr, hA, hF, hAA, hO, h0, h4, h13, h14, h15, f_u4, f_v0⟩
  rcases k with _ | k
  ·cases (show none = some _ from hr)
  rw [M_impl_ParseFeatures_L0] at hr
  refine HT.seq ?_
  refine HT.text (l := ⟨_, true, .raw (.bool (decide (y8 < (x2.length : Int))))⟩ :: []) (tl := []) (by kernel_rfl) (by kernel_rfl) (by kernel_rfl) ?_ ?_
  ·exact
    Obls.p (fun R' w' hw hs hd => of_lss ((hs 15 rfl).trans h15) ((hs 14 rfl).trans h14)) <|
    Obls.nil
  intro R w hw hs hF'
  replace h0 := (hs 0 rfl).trans h0
  replace h4 := (hs 4 rfl).trans h4
  replace h13 := (hs 13 rfl).trans h13
  replace h14 := (hs 14 rfl).trans h14
  replace h15 := (hs 15 rfl).trans h15
  have h16 : R 16 = .bool (decide (y8 < (x2.length : Int))) := hF' 0 _ _ rfl rfl rfl
  replace f_u4 := f_u4.fr hw
  replace f_v0 := f_v0.fr hw
  replace hO := hO.fr hw
  replace hA := hA.fr hw.size
  replace hF := hF.trans hw
  clear hs hF' hw
  refine seqR_nil ?_
  refine HT.seq ?_
  refine HT.cond (decide (y8 < (x2.length : Int))) h16 (fun c10 => ?_) (fun c10 => ?_)
  ·have hr := cnd_t c10 hr
   refine HT.skip ?_
   refine HT.seq ?_
   refine HT.block ?_
   refine HT.seq ?_
   obtain ⟨e11, hr⟩ := ck_some hr
   refine HT.text (l := ⟨_, true, .qtr eStr A (gtD x2 y8)⟩ :: ⟨_, true, .rep eStr A (gtD x2 y8)⟩ :: ⟨_, true, .rep eStr A (gtD x2 y8)⟩ :: []) (tl := []) (by kernel_rfl) (by kernel_rfl) (by kernel_rfl) ?_ ?_
   ·exact
     Obls.p (fun R' w' hw hs hd => by have ra0 := (f_u4.fr hw).eq ((hs 13 rfl).trans h13); exact of_indexAddr ra0 ((hs 15 rfl).trans h15) Tryd.underlying35 Tryd.sizeOf9 e11) <|
     Obls.p (fun R' w' hw hs hd => by have a0 : QRep eStr A w' (R' 17) (gtD x2 y8) := hd.g 0 rfl; exact (of_load a0.ptr Tryd.isAgg9 Tryd.sizeOf9)) <|
     Obls.p (fun R' w' hw hs hd => by have a0 : Rep eStr A w' (R' 18) (gtD x2 y8) := hd.g 0 rfl; exact of_assign a0) <|
     Obls.nil
   intro R w hw hs hF'
   replace h0 := (hs 0 rfl).trans h0
   replace h4 := (hs 4 rfl).trans h4
   replace h13 := (hs 13 rfl).trans h13
   replace h14 := (hs 14 rfl).trans h14
   replace h15 := (hs 15 rfl).trans h15
   obtain ⟨u12, h6, f_u12⟩ : ∃ u, R 6 = u ∧ Rep eStr A w u (gtD x2 y8) := ⟨_, rfl, hF' 2 _ _ rfl rfl rfl⟩
   replace f_u4 := f_u4.fr hw
   replace f_v0 := f_v0.fr hw
   replace hO := hO.fr hw
   replace hA := hA.fr hw.size
   replace hF := hF.trans hw
   clear hs hF' hw
   refine seqR_nil ?_
   refine HT.seq ?_
   obtain ⟨x13, q14, hr⟩ := cl_some hr
   refine HT.text (l := ⟨_, true, .raw u12⟩ :: ⟨_, true, .tup3 (.rep eStr A x13.1) (.rep eStr A x13.2.1) (.raw (.bool x13.2.2))⟩ :: ⟨_, true, .tup3 (.rep eStr A x13.1) (.rep eStr A x13.2.1) (.raw (.bool x13.2.2))⟩ :: ⟨_, true, .rep eStr A x13.1⟩ :: ⟨_, true, .rep eStr A x13.2.1⟩ :: ⟨_, true, .raw (.bool x13.2.2)⟩ :: ⟨_, true, .rep eStr A x13.1⟩ :: ⟨_, true, .rep eStr A x13.2.1⟩ :: ⟨_, true, .raw (.bool x13.2.2)⟩ :: []) (tl := []) (by kernel_rfl) (by kernel_rfl) (by kernel_rfl) ?_ ?_
   ·exact
     Obls.p (fun R' w' hw hs hd => of_move ((hs 6 rfl).trans h6)) <|
     Obls.p (fun R' w' hw hs hd => by have a0 : R' 20 = u12 := hd.g 0 rfl; have ra0 := (f_u12.fr hw).eq a0; exact of_call Tryd.call19 (M_cut_ok (q14 rfl) (hA.fr hw.size) (hG0.fr (hF.trans hw)) ra0 ⟨_, rfl, ⟨_, rfl, rfl, by decide⟩⟩)) <|
     Obls.p (fun R' w' hw hs hd => by have a0 : Fact.ok (.tup3 (.rep eStr A x13.1) (.rep eStr A x13.2.1) (.raw (.bool x13.2.2))) (R' 21) w' := hd.g 0 rfl; exact of_move a0) <|
     Obls.p (fun R' w' hw hs hd => by have a0 : Fact.ok (.tup3 (.rep eStr A x13.1) (.rep eStr A x13.2.1) (.raw (.bool x13.2.2))) (R' 19) w' := hd.g 0 rfl; exact of_extract3_0 a0) <|
     Obls.p (fun R' w' hw hs hd => by have a0 : Fact.ok (.tup3 (.rep eStr A x13.1) (.rep eStr A x13.2.1) (.raw (.bool x13.2.2))) (R' 19) w' := hd.g 0 rfl; exact of_extract3_1 a0) <|
     Obls.p (fun R' w' hw hs hd => by have a0 : Fact.ok (.tup3 (.rep eStr A x13.1) (.rep eStr A x13.2.1) (.raw (.bool x13.2.2))) (R' 19) w' := hd.g 0 rfl; exact of_extract3_2 a0) <|
     Obls.p (fun R' w' hw hs hd => by have a0 : Rep eStr A w' (R' 22) x13.1 := hd.g 0 rfl; exact of_assign a0) <|
     Obls.p (fun R' w' hw hs hd => by have a0 : Rep eStr A w' (R' 23) x13.2.1 := hd.g 0 rfl; exact of_assign a0) <|
     Obls.p (fun R' w' hw hs hd => by have a0 : R' 24 = .bool x13.2.2 := hd.g 0 rfl; exact of_assign a0) <|
     Obls.nil
   intro R w hw hs hF'
   replace h0 := (hs 0 rfl).trans h0
   replace h4 := (hs 4 rfl).trans h4
   replace h13 := (hs 13 rfl).trans h13
   replace h14 := (hs 14 rfl).trans h14
   replace h15 := (hs 15 rfl).trans h15
   obtain ⟨u15, h8, f_u15⟩ : ∃ u, R 8 = u ∧ Rep eStr A w u x13.2.1 := ⟨_, rfl, hF' 7 _ _ rfl rfl rfl⟩
   replace f_u4 := f_u4.fr hw
   replace f_v0 := f_v0.fr hw
   replace hO := hO.fr hw
   replace hA := hA.fr hw.size
   replace hF := hF.trans hw
   clear hs hF' hw
   refine seqR_nil ?_
   refine HT.seq ?_
   obtain ⟨x16, q17, hr⟩ := cl_some hr
   refine HT.text (l := ⟨_, true, .raw u15⟩ :: ⟨_, true, .tup2 (.raw (.int .i64 x16.1)) (.raw (.bool x16.2))⟩ :: ⟨_, true, .tup2 (.raw (.int .i64 x16.1)) (.raw (.bool x16.2))⟩ :: ⟨_, true, .raw (.int .i64 x16.1)⟩ :: ⟨_, true, .raw (.bool x16.2)⟩ :: ⟨_, true, .raw (.int .i64 x16.1)⟩ :: ⟨_, true, .raw (.bool x16.2)⟩ :: []) (tl := []) (by kernel_rfl) (by kernel_rfl) (by kernel_rfl) ?_ ?_
   ·exact
     Obls.p (fun R' w' hw hs hd => of_move ((hs 8 rfl).trans h8)) <|
     Obls.p (fun R' w' hw hs hd => by have a0 : R' 26 = u15 := hd.g 0 rfl; have ra0 := (f_u15.fr hw).eq a0; exact of_call Tryd.call20 (M_impl_ParseInt_ok (q17 rfl) (hA.fr hw.size) (hG0.fr (hF.trans hw)) ra0)) <|
     Obls.p (fun R' w' hw hs hd => by have a0 : Fact.ok (.tup2 (.raw (.int .i64 x16.1)) (.raw (.bool x16.2))) (R' 27) w' := hd.g 0 rfl; exact of_move a0) <|
     Obls.p (fun R' w' hw hs hd => by have a0 : Fact.ok (.tup2 (.raw (.int .i64 x16.1)) (.raw (.bool x16.2))) (R' 25) w' := hd.g 0 rfl; exact of_extract2_0 a0) <|
     Obls.p (fun R' w' hw hs hd => by have a0 : Fact.ok (.tup2 (.raw (.int .i64 x16.1)) (.raw (.bool x16.2))) (R' 25) w' := hd.g 0 rfl; exact of_extract2_1 a0) <|
     Obls.p (fun R' w' hw hs hd => by have a0 : R' 28 = .int .i64 x16.1 := hd.g 0 rfl; exact of_assign a0) <|
     Obls.p (fun R' w' hw hs hd => by have a0 : R' 29 = .bool x16.2 := hd.g 0 rfl; exact of_assign a0) <|
     Obls.nil
   intro R w hw hs hF'
   replace h0 := (hs 0 rfl).trans h0
   replace h4 := (hs 4 rfl).trans h4
   replace h13 := (hs 13 rfl).trans h13
   replace h14 := (hs 14 rfl).trans h14
   replace h15 := (hs 15 rfl).trans h15
   have h10 : R 10 = .int .i64 x16.1 := hF' 5 _ _ rfl rfl rfl
   have h11 : R 11 = .bool x16.2 := hF' 6 _ _ rfl rfl rfl
   replace f_u4 := f_u4.fr hw
   replace f_v0 := f_v0.fr hw
   replace hO := hO.fr hw
   replace hA := hA.fr hw.size
   replace hF := hF.trans hw
   clear hs hF' hw
   refine seqR_nil ?_
   refine HT.seq ?_
   refine HT.seq ?_
   refine HT.text (l := ⟨_, true, .raw (.bool x16.2)⟩ :: ⟨_, true, .raw (.bool (!x16.2))⟩ :: []) (tl := []) (by kernel_rfl) (by kernel_rfl) (by kernel_rfl) ?_ ?_
   ·exact
     Obls.p (fun R' w' hw hs hd => of_move ((hs 11 rfl).trans h11)) <|
     Obls.p (fun R' w' hw hs hd => by have a0 : R' 30 = .bool x16.2 := hd.g 0 rfl; exact of_not a0) <|
     Obls.nil
   intro R w hw hs hF'
   replace h0 := (hs 0 rfl).trans h0
   replace h4 := (hs 4 rfl).trans h4
   replace h10 := (hs 10 rfl).trans h10
   replace h13 := (hs 13 rfl).trans h13
   replace h14 := (hs 14 rfl).trans h14
   replace h15 := (hs 15 rfl).trans h15
   have h31 : R 31 = .bool (!x16.2) := hF' 1 _ _ rfl rfl rfl
   replace f_u4 := f_u4.fr hw
   replace f_v0 := f_v0.fr hw
   replace hO := hO.fr hw
   replace hA := hA.fr hw.size
   replace hF := hF.trans hw
   clear hs hF' hw
   refine seqR_nil ?_
   refine HT.cond (!x16.2) h31 (fun c18 => ?_) (fun c18 => ?_)
   ·have hr := cnd_t c18 hr
    refine HT.seq ?_
    refine HT.text (l := ⟨_, true, .raw (.slice none 0 0)⟩ :: ⟨_, true, .raw (.bool false)⟩ :: []) (tl := []) (by kernel_rfl) (by kernel_rfl) (by kernel_rfl) ?_ ?_
    ·exact
      Obls.p (fun R' w' hw hs hd => of_assign rfl) <|
      Obls.p (fun R' w' hw hs hd => of_assign rfl) <|
      Obls.nil
    intro R w hw hs hF'
    obtain ⟨u19, n_u19⟩ : ∃ u, u = Value.slice none 0 0 := ⟨_, rfl⟩
    have h2 : R 2 = u19 := (hF' 0 _ _ rfl rfl rfl).trans n_u19.symm
    have h3 : R 3 = .bool false := hF' 1 _ _ rfl rfl rfl
    replace hO := hO.fr hw
    replace hO : IniOK [] A w := hO.sub [] trivial
    replace hA := hA.fr hw.size
    replace hF := hF.trans hw
    clear hs hF' hw
    refine seqR_nil ?_
    replace hO := hO.nilcons (u := u19) n_u19 w0.heap.size 3 (eInt .i64)
    refine HT.ret ?_
    obtain rfl := Option.some.inj hr
    have hr := hr0
    replace hr : some _ = some _ := hr
    obtain rfl := Option.some.inj hr
    obtain ⟨A1, hA1, hG1⟩ := GPost.of hO hA hAA (fun k hk => .inl (hO.ge (⟨rfl, trivial⟩) k hk)) (hF.ch (fun _ => False))
    exact ⟨.inr rfl, [R 2, R 3], ⟨rfl, ⟨rfl, trivial⟩⟩, u19, A1, hG1, ⟨_, _, rfl, h2, h3⟩⟩
   ·have hr := cnd_f c18 hr
    refine HT.skip ?_
    obtain ⟨e20, hr⟩ := ck_some hr
    refine HT.textR [ob ul_u1 (.vec w0.heap.size 3 (eInt .i64) y9)] (⟨_, true, [], none, true, fun A => .raw ul_u1⟩ :: ⟨_, true, [], none, true, fun A => .raw (.int .i64 x16.1)⟩ :: ⟨_, true, [], none, true, fun A => .rep (eSl (eInt .i64)) A ([x16.1] : List Int)⟩ :: ⟨_, true, [0], some (.vec w0.heap.size 3 (eInt .i64) (y9 ++ ([x16.1] : List Int))), true, fun A => .any⟩ :: ⟨_, true, [4], some (.vec w0.heap.size 3 (eInt .i64) (y9 ++ ([x16.1] : List Int))), true, fun A => .any⟩ :: []) (by kernel_rfl) (by kernel_rfl) (Wf.mk' (by kernel_rfl) (UAll.cons ust_raw (UAll.cons ust_raw (UAll.cons ust_rep (UAll.cons ust_any (UAll.cons ust_any (UAll.nil)))))) (by kernel_rfl) (by kernel_rfl)) hO hA ?_ ?_
    ·exact
      OblsR.p (fun A' R' w' ho hd => of_move ((ho.old 4 rfl).trans h4)) <|
      OblsR.p (fun A' R' w' ho hd => of_move ((ho.old 10 rfl).trans h10)) <|
      OblsR.p (fun A' R' w' ho hd => by have a0 : R' 33 = .int .i64 x16.1 := hd.g 0 rfl; exact of_build [_] (E := eInt .i64) ⟨(rep_int.eq a0), trivial⟩ Tryd.underlying22 Tryd.sizeOf3 Tryd.zeroValue3 rfl rfl rfl ho.av) <|
      OblsR.cons (OblR.took 0 _ _ rfl rfl rfl rfl rfl fun A' R' w' ho hd u hok hav hin hop hds => by have a0 : R' 32 = ul_u1 := hd.g 0 rfl; have a1 : Rep (eSl (eInt .i64)) A' w' (R' 34) ([x16.1] : List Int) := hd.g 1 rfl; exact took_append (a0.trans (hin _ rfl).symm) hok hav (Nat.le_trans hF.size ho.ch.size) a1 Tryd.underlying22 el_3 e20) <|
      OblsR.cons (OblR.took 4 _ _ rfl rfl rfl rfl rfl fun A' R' w' ho hd u hok hav hin hop hds => by exact took_assign (hop _ _ rfl rfl rfl rfl).symm hok hav) <|
      OblsR.nil
    intro done ρ σ A R w hdn hI
    replace h0 : R 0 = v0 := (hI.reg rfl).trans h0
    replace h13 : R 13 = u4 := (hI.reg rfl).trans h13
    replace h14 : R 14 = .int .i64 (x2.length : Int) := (hI.reg rfl).trans h14
    replace h15 : R 15 = .int .i64 y8 := (hI.reg rfl).trans h15
    obtain ⟨u21, e_u21⟩ : ∃ u, ρ 5 = u := ⟨_, rfl⟩
    have h4 : R 4 = u21 := (hI.opvR hdn 5 4 rfl rfl rfl rfl rfl).symm.trans e_u21
    replace f_u4 := f_u4.stp hI.stp
    replace f_v0 := f_v0.stp hI.stp
    replace hAA := hI.low' hAA hA0 (hO.ge (⟨rfl, trivial⟩))
    replace hF : Fr w0 w := hF.tr hI.ch (hO.ge (⟨rfl, trivial⟩))
    replace hO : IniOK [ob u21 (.vec w0.heap.size 3 (eInt .i64) (y9 ++ ([x16.1] : List Int)))] A w := hI.left hdn [(5, ob u21 (.vec w0.heap.size 3 (eInt .i64) (y9 ++ ([x16.1] : List Int))))] ⟨rfl, rfl, e_u21, rfl, rfl, trivial⟩
    replace hA := hI.avok
    clear hI
    obtain ⟨e22, hr⟩ := ck_some hr
    refine HT.text (l := ⟨_, true, .raw (.int .i64 (y8 + (1 : Int)))⟩ :: ⟨_, true, .raw (.int .i64 (y8 + (1 : Int)))⟩ :: []) (tl := []) (by kernel_rfl) (by kernel_rfl) (by kernel_rfl) ?_ ?_
    ·exact
      Obls.p (fun R' w' hw hs hd => of_add ((hs 15 rfl).trans h15) rfl e22) <|
      Obls.p (fun R' w' hw hs hd => by have a0 : R' 36 = .int .i64 (y8 + (1 : Int)) := hd.g 0 rfl; exact of_move a0) <|
      Obls.nil
    intro R w hw hs hF'
    replace h0 := (hs 0 rfl).trans h0
    replace h4 := (hs 4 rfl).trans h4
    replace h13 := (hs 13 rfl).trans h13
    replace h14 := (hs 14 rfl).trans h14
    have h15 : R 15 = .int .i64 (y8 + (1 : Int)) := hF' 1 _ _ rfl rfl rfl
    replace f_u4 := f_u4.fr hw
    replace f_v0 := f_v0.fr hw
    replace hO := hO.fr hw
    replace hA := hA.fr hw.size
    replace hF := hF.trans hw
    clear hs hF' hw
    refine seqR_nil ?_
    exact Exists.intro k (And.intro (Nat.lt_succ_self k) ⟨_, _, _, u21, hr, hA, hF, hAA, hO, h0, h4, h13, h14, h15, f_u4, f_v0⟩)
  ·have hr := cnd_f c10 hr
   refine HT.exit ?_
   obtain rfl := Option.some.inj hr
   exact Exists.intro _ ⟨_, ul_u1, rfl, hA, hF, hAA, hO, h0, h4, f_v0⟩
 rintro R w ⟨A, s7, uo_u1, rfl, hA, hF, hAA, hO, h0, h4, f_v0⟩
 have hr := exM_go hr
 refine HT.seq ?_
 refine HT.seq ?_
 obtain ⟨x23, q24, hr⟩ := cl_some hr
 refine HT.text (l := ⟨_, true, .raw uo_u1⟩ :: ⟨_, true, .rep eStr A x23⟩ :: ⟨_, true, .raw v0⟩ :: ⟨_, true, .raw (.bool (!(x23 == p0)))⟩ :: []) (tl := []) (by kernel_rfl) (by kernel_rfl) (by kernel_rfl) ?_ ?_
 ·exact
   Obls.p (fun R' w' hw hs hd => of_move ((hs 4 rfl).trans h4)) <|
   Obls.p (fun R' w' hw hs hd => by have a0 : R' 37 = uo_u1 := hd.g 0 rfl; have ra0 := (vec_rep ((hO.fr hw).ok 0 _ rfl).1 hAA hA0).eq a0; exact of_call Tryd.call21 (calls_flat (fun _ _ _ _ _ h => h) (M_impl_FormatFeatures_ok (q24 rfl) (hA00.fr ((Nat.le_trans hF.size hw.size))) (hG0.fr (hF.trans hw)) ra0))) <|
   Obls.p (fun R' w' hw hs hd => of_move ((hs 0 rfl).trans h0)) <|
   Obls.p (fun R' w' hw hs hd => by have a0 : Rep eStr A w' (R' 38) x23 := hd.g 0 rfl; have a1 : R' 39 = v0 := hd.g 1 rfl; have ra1 := (f_v0.fr hw).eq a1; exact of_sneq a0 ra1) <|
   Obls.nil
 intro R w hw hs hF'
 replace h4 := (hs 4 rfl).trans h4
 have h40 : R 40 = .bool (!(x23 == p0)) := hF' 3 _ _ rfl rfl rfl
 replace hO := hO.fr hw
 replace hA := hA.fr hw.size
 replace hF := hF.trans hw
 clear hs hF' hw
 refine seqR_nil ?_
 refine HT.cond (!(x23 == p0)) h40 (fun c25 => ?_) (fun c25 => ?_)
 ·have hr := cnd_t c25 hr
  refine HT.seq ?_
  refine HT.text (l := ⟨_, true, .raw (.slice none 0 0)⟩ :: ⟨_, true, .raw (.bool false)⟩ :: []) (tl := []) (by kernel_rfl) (by kernel_rfl) (by kernel_rfl) ?_ ?_
  ·exact
    Obls.p (fun R' w' hw hs hd => of_assign rfl) <|
    Obls.p (fun R' w' hw hs hd => of_assign rfl) <|
    Obls.nil
  intro R w hw hs hF'
  obtain ⟨u26, n_u26⟩ : ∃ u, u = Value.slice none 0 0 := ⟨_, rfl⟩
  have h2 : R 2 = u26 := (hF' 0 _ _ rfl rfl rfl).trans n_u26.symm
  have h3 : R 3 = .bool false := hF' 1 _ _ rfl rfl rfl
  replace hO := hO.fr hw
  replace hO : IniOK [] A w := hO.sub [] trivial
  replace hA := hA.fr hw.size
  replace hF := hF.trans hw
  clear hs hF' hw
  refine seqR_nil ?_
  replace hO := hO.nilcons (u := u26) n_u26 w0.heap.size 3 (eInt .i64)
  refine HT.ret ?_
  obtain rfl := Option.some.inj hr
  obtain ⟨A1, hA1, hG1⟩ := GPost.of hO hA hAA (fun k hk => .inl (hO.ge (⟨rfl, trivial⟩) k hk)) (hF.ch (fun _ => False))
  exact ⟨.inr rfl, [R 2, R 3], ⟨rfl, ⟨rfl, trivial⟩⟩, u26, A1, hG1, ⟨_, _, rfl, h2, h3⟩⟩
 ·have hr := cnd_f c25 hr
  refine HT.skip ?_
  refine HT.seq ?_
  refine HT.text (l := ⟨_, true, .raw uo_u1⟩ :: ⟨_, true, .raw uo_u1⟩ :: ⟨_, true, .raw (.bool true)⟩ :: []) (tl := []) (by kernel_rfl) (by kernel_rfl) (by kernel_rfl) ?_ ?_
  ·exact
    Obls.p (fun R' w' hw hs hd => of_move ((hs 4 rfl).trans h4)) <|
    Obls.p (fun R' w' hw hs hd => by have a0 : R' 41 = uo_u1 := hd.g 0 rfl; exact of_assign a0) <|
    Obls.p (fun R' w' hw hs hd => of_assign rfl) <|
    Obls.nil
  intro R w hw hs hF'
  have h2 : R 2 = uo_u1 := hF' 1 _ _ rfl rfl rfl
  have h3 : R 3 = .bool true := hF' 2 _ _ rfl rfl rfl
  replace hO := hO.fr hw
  replace hA := hA.fr hw.size
  replace hF := hF.trans hw
  clear hs hF' hw
  refine seqR_nil ?_
  refine HT.ret ?_
  obtain rfl := Option.some.inj hr
  obtain ⟨A1, hA1, hG1⟩ := GPost.of hO hA hAA (fun k hk => .inl (hO.ge (⟨rfl, trivial⟩) k hk)) (hF.ch (fun _ => False))
  exact ⟨.inr rfl, [R 2, R 3], ⟨rfl, ⟨rfl, trivial⟩⟩, uo_u1, A1, hG1, ⟨_, _, rfl, h2, h3⟩⟩
theorem M_impl_ParseFeatures_okR {fu : Nat} {A0 : Av} {p0 : List UInt8} {r : (List Int) × Bool} (hr : M_impl_ParseFeatures fu p0 = some r) {w : World} {v0 : Value} (hA : AvOK A0 w) (hG : GTab w) (h0 : Rep eStr A0 w v0 p0) :
  Calls Tryd.prog 6 #[v0] w fun e w' => ∃ v, e = .returned v ∧ ((∃ a b, v = .tuple #[a, b] ∧ Rep (eSl (eInt .i64)) A0 w' a r.1 ∧ b = .bool r.2) ∧ Fr w w') := by
 refine Calls.mono (M_impl_ParseFeatures_ok hr hA hG h0) ?_
 rintro e w' ⟨v, he, u0, A1, hG, a0, a1, hv, e0, e1⟩
 exact ⟨v, he, ⟨a0, a1, hv, (vec_rep (hG.ini.ok 0 _ rfl).1 hG.low hA).eq e0, e1⟩, hG.ch.no⟩
def M_laws_eqIntS_L0 (fu : Nat) (p0 : List Int) (p1 : List Int) : Nat → Int → Option (Ex Bool Unit)
 | 0, _ => none
 | k + 1, y5 =>
  bif (decide (y5 < (p0.length : Int))) then (
   ck (inR y5 p0.length) <|
   ck (inR y5 p1.length) <|
   bif ((gtD p0 y5) != (gtD p1 y5)) then (
    some (Ex.ret false)
   ) else (
    ck (i64B (y5 + (1 : Int))) <|
    M_laws_eqIntS_L0 fu p0 p1 k (y5 + (1 : Int))
   )
  ) else (
   some (Ex.go ())
  )
def M_laws_eqIntS (fu : Nat) (p0 : List Int) (p1 : List Int) : Option Bool :=
 bif ((p0.length : Int) != (p1.length : Int)) then (
  some false
 ) else (
  cl true (M_laws_eqIntS_L0 fu p0 p1 fu (0 : Int)) fun rl2 =>
  exM rl2 (fun r => some r) fun s4 =>
  some true
 )
theorem M_laws_eqIntS_ok {fu : Nat} {A : Av} {p0 : List Int} {p1 : List Int} {r : Bool} (hr : M_laws_eqIntS fu p0 p1 = some r) {w : World} {v0 : Value} {v1 : Value} (hA : AvOK A w) (h0 : Rep (eSl (eInt .i64)) A w v0 p0) (h1 : Rep (eSl (eInt .i64)) A w v1 p1) :
  Calls Tryd.prog 7 #[v0, v1] w fun e w' => ∃ v, e = .returned v ∧ (v = .bool r ∧ Fr w w') := by
 unfold M_laws_eqIntS at hr
 obtain ⟨w0, hw0⟩ : ∃ w0, w0 = w := ⟨_, rfl⟩
 have hF : Fr w0 w := hw0 ▸ Fr.refl _
 rw [show Fr w = Fr w0 from hw0 ▸ rfl]
 clear hw0
 refine calls_of_HT2 [.tmp 4] Tryd.func7 Tryd.ntmps7 (by decide) rfl rfl (Nat.le_of_ble_eq_true rfl) ?_
 intro R hR
 have f_v0 := h0
 replace h0 : R 0 = v0 := hR 0 _ rfl
 have f_v1 := h1
 replace h1 : R 1 = v1 := hR 1 _ rfl
 clear hR
 refine HT.seq ?_
 refine HT.text (l := ⟨_, true, .raw (.bool false)⟩ :: []) (tl := []) (by kernel_rfl) (by kernel_rfl) (by kernel_rfl) ?_ ?_
 ·exact
   Obls.p (fun R' w' hw hs hd => of_assign rfl) <|
   Obls.nil
 intro R w hw hs hF'
 replace h0 := (hs 0 rfl).trans h0
 replace h1 := (hs 1 rfl).trans h1
 replace f_v0 := f_v0.fr hw
 replace f_v1 := f_v1.fr hw
 replace hA := hA.fr hw.size
 replace hF := hF.trans hw
 clear hs hF' hw
 refine seqR_nil ?_
 refine HT.seq ?_
 refine HT.seq ?_
 refine HT.text (l := ⟨_, true, .raw v0⟩ :: ⟨_, true, .raw (.int .i64 (p0.length : Int))⟩ :: ⟨_, true, .raw v1⟩ :: ⟨_, true, .raw (.int .i64 (p1.length : Int))⟩ :: ⟨_, true, .raw (.bool ((p0.length : Int) != (p1.length : Int)))⟩ :: []) (tl := []) (by kernel_rfl) (by kernel_rfl) (by kernel_rfl) ?_ ?_
 ·exact
   Obls.p (fun R' w' hw hs hd => of_move ((hs 0 rfl).trans h0)) <|
   Obls.p (fun R' w' hw hs hd => by have a0 : R' 6 = v0 := hd.g 0 rfl; have ra0 := (f_v0.fr hw).eq a0; exact of_len_sl (aT := #[]) ra0 Tryd.underlying22) <|
   Obls.p (fun R' w' hw hs hd => of_move ((hs 1 rfl).trans h1)) <|
   Obls.p (fun R' w' hw hs hd => by have a0 : R' 8 = v1 := hd.g 0 rfl; have ra0 := (f_v1.fr hw).eq a0; exact of_len_sl (aT := #[]) ra0 Tryd.underlying22) <|
   Obls.p (fun R' w' hw hs hd => by have a0 : R' 7 = .int .i64 (p0.length : Int) := hd.g 0 rfl; have a1 : R' 9 = .int .i64 (p1.length : Int) := hd.g 1 rfl; exact of_neq a0 a1) <|
   Obls.nil
 intro R w hw hs hF'
 replace h0 := (hs 0 rfl).trans h0
 replace h1 := (hs 1 rfl).trans h1
 have h10 : R 10 = .bool ((p0.length : Int) != (p1.length : Int)) := hF' 4 _ _ rfl rfl rfl
 replace f_v0 := f_v0.fr hw
 replace f_v1 := f_v1.fr hw
 replace hA := hA.fr hw.size
 replace hF := hF.trans hw
 clear hs hF' hw
 refine seqR_nil ?_
 refine HT.cond ((p0.length : Int) != (p1.length : Int)) h10 (fun c1 => ?_) (fun c1 => ?_)
 ·have hr := cnd_t c1 hr
  refine HT.seq ?_
  refine HT.text (l := ⟨_, true, .raw (.bool false)⟩ :: []) (tl := []) (by kernel_rfl) (by kernel_rfl) (by kernel_rfl) ?_ ?_
  ·exact
    Obls.p (fun R' w' hw hs hd => of_assign rfl) <|
    Obls.nil
  intro R w hw hs hF'
  have h4 : R 4 = .bool false := hF' 0 _ _ rfl rfl rfl
  replace hA := hA.fr hw.size
  replace hF := hF.trans hw
  clear hs hF' hw
  refine seqR_nil ?_
  refine HT.ret ?_
  obtain rfl := Option.some.inj hr
  exact ⟨.inr rfl, [R 4], ⟨rfl, trivial⟩, h4, hF⟩
 ·have hr := cnd_f c1 hr
  refine HT.skip ?_
  refine HT.seq ?_
  refine HT.seq ?_
  refine HT.text (l := ⟨_, true, .raw (.int .i64 (0 : Int))⟩ :: []) (tl := []) (by kernel_rfl) (by kernel_rfl) (by kernel_rfl) ?_ ?_
  ·exact
    Obls.p (fun R' w' hw hs hd => of_assign rfl) <|
    Obls.nil
  intro R w hw hs hF'
  replace h0 := (hs 0 rfl).trans h0
  replace h1 := (hs 1 rfl).trans h1
  have h5 : R 5 = .int .i64 (0 : Int) := hF' 0 _ _ rfl rfl rfl
  replace f_v0 := f_v0.fr hw
  replace f_v1 := f_v1.fr hw
  replace hA := hA.fr hw.size
  replace hF := hF.trans hw
  clear hs hF' hw
  refine seqR_nil ?_
  obtain ⟨rl2, q3, hr⟩ := cl_some hr
  replace q3 := q3 rfl
  refine HT.cut0 (fun R w => ∃ (s4 : Unit), rl2 = Ex.go s4 ∧ AvOK A w ∧ Fr w0 w) ?_ ?_
  ·refine HT.block ?_
   refine HT.loop (fun k R w => ∃ (y5 : Int), M_laws_eqIntS_L0 fu p0 p1 k y5 = some rl2 ∧ AvOK A w ∧ Fr w0 w ∧ R 0 = v0 ∧ R 1 = v1 ∧ R 5 = .int .i64 y5 ∧ Rep (eSl (eInt .i64)) A w v0 p0 ∧ Rep (eSl (eInt .i64)) A w v1 p1) fu ⟨_, q3, hA, hF, h0, h1, h5, f_v0, f_v1⟩ ?_
   have hr0 := hr; clear hr q3
   rintro k R w ⟨y5, hr, hA, hF, h0, h1, h5, f_v0, f_v1⟩
   rcases k with _ | k
   ·cases (show none = some _ from hr)
   rw [M_laws_eqIntS_L0] at hr
   refine HT.seq ?_
   refine HT.seq ?_
   refine HT.text (l := ⟨_, true, .raw (.int .i64 y5)⟩ :: ⟨_, true, .raw v0⟩ :: ⟨_, true, .raw (.int .i64 (p0.length : Int))⟩ :: ⟨_, true, .raw (.bool (decide (y5 < (p0.length : Int))))⟩ :: []) (tl := []) (by kernel_rfl) (by kernel_rfl) (by kernel_rfl) ?_ ?_
   ·exact
     Obls.p (fun R' w' hw hs hd => of_move ((hs 5 rfl).trans h5)) <|
     Obls.p (fun R' w' hw hs hd => of_move ((hs 0 rfl).trans h0)) <|
     Obls.p (fun R' w' hw hs hd => by have a0 : R' 12 = v0 := hd.g 0 rfl; have ra0 := (f_v0.fr hw).eq a0; exact of_len_sl (aT := #[]) ra0 Tryd.underlying22) <|
     Obls.p (fun R' w' hw hs hd => by have a0 : R' 11 = .int .i64 y5 := hd.g 0 rfl; have a1 : R' 13 = .int .i64 (p0.length : Int) := hd.g 1 rfl; exact of_lss a0 a1) <|
     Obls.nil
   intro R w hw hs hF'
   replace h0 := (hs 0 rfl).trans h0
   replace h1 := (hs 1 rfl).trans h1
   replace h5 := (hs 5 rfl).trans h5
   have h14 : R 14 = .bool (decide (y5 < (p0.length : Int))) := hF' 3 _ _ rfl rfl rfl
   replace f_v0 := f_v0.fr hw
   replace f_v1 := f_v1.fr hw
   replace hA := hA.fr hw.size
   replace hF := hF.trans hw
   clear hs hF' hw
   refine seqR_nil ?_
   refine HT.cond (decide (y5 < (p0.length : Int))) h14 (fun c6 => ?_) (fun c6 => ?_)
   ·have hr := cnd_t c6 hr
    refine HT.skip ?_
    refine HT.seq ?_
    refine HT.block ?_
    refine HT.seq ?_
    obtain ⟨e7, hr⟩ := ck_some hr
    obtain ⟨e8, hr⟩ := ck_some hr
    refine HT.draw (by kernel_rfl) (l := ⟨_, true, .raw v0⟩ :: ⟨_, true, .raw (.int .i64 y5)⟩ :: ⟨_, true, .qtr (eInt .i64) A (gtD p0 y5)⟩ :: ⟨_, true, .raw (.int .i64 (gtD p0 y5))⟩ :: ⟨_, true, .raw v1⟩ :: ⟨_, true, .raw (.int .i64 y5)⟩ :: ⟨_, true, .qtr (eInt .i64) A (gtD p1 y5)⟩ :: ⟨_, true, .raw (.int .i64 (gtD p1 y5))⟩ :: ⟨_, true, .raw (.bool ((gtD p0 y5) != (gtD p1 y5)))⟩ :: []) (tl := []) (by kernel_rfl) (by kernel_rfl) (by kernel_rfl) (by kernel_rfl) ?_ ?_
    ·exact
      Obls.p (fun R' w' hw hs hd => of_move ((hs 0 rfl).trans h0)) <|
      Obls.p (fun R' w' hw hs hd => of_move ((hs 5 rfl).trans h5)) <|
      Obls.p (fun R' w' hw hs hd => by have a0 : R' 17 = v0 := hd.g 0 rfl; have a1 : R' 18 = .int .i64 y5 := hd.g 1 rfl; have ra0 := (f_v0.fr hw).eq a0; exact of_indexAddr ra0 a1 Tryd.underlying22 Tryd.sizeOf3 e7) <|
      Obls.p (fun R' w' hw hs hd => by have a0 : QRep (eInt .i64) A w' (R' 19) (gtD p0 y5) := hd.g 0 rfl; exact OpF.int (of_load a0.ptr Tryd.isAgg3 Tryd.sizeOf3)) <|
      Obls.p (fun R' w' hw hs hd => of_move ((hs 1 rfl).trans h1)) <|
      Obls.p (fun R' w' hw hs hd => of_move ((hs 5 rfl).trans h5)) <|
      Obls.p (fun R' w' hw hs hd => by have a0 : R' 21 = v1 := hd.g 0 rfl; have a1 : R' 22 = .int .i64 y5 := hd.g 1 rfl; have ra0 := (f_v1.fr hw).eq a0; exact of_indexAddr ra0 a1 Tryd.underlying22 Tryd.sizeOf3 e8) <|
      Obls.p (fun R' w' hw hs hd => by have a0 : QRep (eInt .i64) A w' (R' 23) (gtD p1 y5) := hd.g 0 rfl; exact OpF.int (of_load a0.ptr Tryd.isAgg3 Tryd.sizeOf3)) <|
      Obls.p (fun R' w' hw hs hd => by have a0 : R' 20 = .int .i64 (gtD p0 y5) := hd.g 0 rfl; have a1 : R' 24 = .int .i64 (gtD p1 y5) := hd.g 1 rfl; exact of_neq a0 a1) <|
      Obls.nil
    intro R w hw hs hF'
    replace h0 := (hs 0 rfl).trans h0
    replace h1 := (hs 1 rfl).trans h1
    replace h5 := (hs 5 rfl).trans h5
    have h25 : R 25 = .bool ((gtD p0 y5) != (gtD p1 y5)) := hF' 8 _ _ rfl rfl rfl
    replace f_v0 := f_v0.fr hw
    replace f_v1 := f_v1.fr hw
    replace hA := hA.fr hw.size
    replace hF := hF.trans hw
    clear hs hF' hw
    refine seqR_nil ?_
    refine HT.cond ((gtD p0 y5) != (gtD p1 y5)) h25 (fun c9 => ?_) (fun c9 => ?_)
    ·have hr := cnd_t c9 hr
     refine HT.seq ?_
     refine HT.text (l := ⟨_, true, .raw (.bool false)⟩ :: []) (tl := []) (by kernel_rfl) (by kernel_rfl) (by kernel_rfl) ?_ ?_
     ·exact
       Obls.p (fun R' w' hw hs hd => of_assign rfl) <|
       Obls.nil
     intro R w hw hs hF'
     have h4 : R 4 = .bool false := hF' 0 _ _ rfl rfl rfl
     replace hA := hA.fr hw.size
     replace hF := hF.trans hw
     clear hs hF' hw
     refine seqR_nil ?_
     refine HT.ret ?_
     obtain rfl := Option.some.inj hr
     have hr := hr0
     replace hr : some _ = some _ := hr
     obtain rfl := Option.some.inj hr
     exact ⟨.inr rfl, [R 4], ⟨rfl, trivial⟩, h4, hF⟩
    ·have hr := cnd_f c9 hr
     refine HT.skip ?_
     obtain ⟨e10, hr⟩ := ck_some hr
     refine HT.text (l := ⟨_, true, .raw (.int .i64 y5)⟩ :: ⟨_, true, .raw (.int .i64 (y5 + (1 : Int)))⟩ :: ⟨_, true, .raw (.int .i64 (y5 + (1 : Int)))⟩ :: []) (tl := []) (by kernel_rfl) (by kernel_rfl) (by kernel_rfl) ?_ ?_
     ·exact
       Obls.p (fun R' w' hw hs hd => of_move ((hs 5 rfl).trans h5)) <|
       Obls.p (fun R' w' hw hs hd => by have a0 : R' 15 = .int .i64 y5 := hd.g 0 rfl; exact of_add a0 rfl e10) <|
       Obls.p (fun R' w' hw hs hd => by have a0 : R' 16 = .int .i64 (y5 + (1 : Int)) := hd.g 0 rfl; exact of_assign a0) <|
       Obls.nil
     intro R w hw hs hF'
     replace h0 := (hs 0 rfl).trans h0
     replace h1 := (hs 1 rfl).trans h1
     have h5 : R 5 = .int .i64 (y5 + (1 : Int)) := hF' 2 _ _ rfl rfl rfl
     replace f_v0 := f_v0.fr hw
     replace f_v1 := f_v1.fr hw
     replace hA := hA.fr hw.size
     replace hF := hF.trans hw
     clear hs hF' hw
     refine seqR_nil ?_
     exact Exists.intro k (And.intro (Nat.lt_succ_self k) ⟨_, hr, hA, hF, h0, h1, h5, f_v0, f_v1⟩)
   ·have hr := cnd_f c6 hr
    refine HT.exit ?_
    obtain rfl := Option.some.inj hr
    exact Exists.intro _ ⟨rfl, hA, hF⟩
  rintro R w ⟨s4, rfl, hA, hF⟩
  have hr := exM_go hr
  refine HT.seq ?_
  refine HT.text (l := ⟨_, true, .raw (.bool true)⟩ :: []) (tl := []) (by kernel_rfl) (by kernel_rfl) (by kernel_rfl) ?_ ?_
  ·exact
    Obls.p (fun R' w' hw hs hd => of_assign rfl) <|
    Obls.nil
  intro R w hw hs hF'
  have h4 : R 4 = .bool true := hF' 0 _ _ rfl rfl rfl
  replace hA := hA.fr hw.size
  replace hF := hF.trans hw
  clear hs hF' hw
  refine seqR_nil ?_
  refine HT.ret ?_
  obtain rfl := Option.some.inj hr
  exact ⟨.inr rfl, [R 4], ⟨rfl, trivial⟩, h4, hF⟩
def M_laws_markIntS_L0 (fu : Nat) : Nat → Int → Int → (List Int) → Option (Int × (List Int))
 | 0, _, _, _ => none
 | k + 1, y4, y5, y6 =>
  bif (decide (y5 < (y6.length : Int))) then (
   ck (inR y5 y6.length) <|
   ck (i64B (y4 + (1 : Int))) <|
   ck (i64B (y5 + (1 : Int))) <|
   M_laws_markIntS_L0 fu k (y4 + (1 : Int)) (y5 + (1 : Int)) (y6.set y5.toNat y4)
  ) else (
   some (y4, y6)
  )
def M_laws_markIntS (fu : Nat) (p0 : List Int) (p1 : Int) : Option (Int × List Int) :=
 cl true (M_laws_markIntS_L0 fu fu p1 (0 : Int) p0) fun s3 =>
 some (s3.1, s3.2)
theorem M_laws_markIntS_ok {fu : Nat} {A0 : Av} {p0 : List Int} {p1 : Int} {r : Int × List Int} (hr : M_laws_markIntS fu p0 p1 = some r) {w : World} {v0 : Value} {v1 : Value} {B0 : Nat} (hA : AvOK A0 w) (hN : ∀ b o, A0 b o → ¬ ownsB v0 b) (h0 : (Res.vec B0 3 (eInt .i64) p0).ok A0 v0 w) (h1 : v1 = .int .i64 p1) :
  Calls Tryd.prog 8 #[v0, v1] w fun e w' => ∃ v, e = .returned v ∧ (v = .int .i64 r.1 ∧ (Res.vec B0 3 (eInt .i64) r.2).ok A0 v0 w' ∧ Ch (ownsB v0) w w') := by
 unfold M_laws_markIntS at hr
 obtain ⟨w0, hw0⟩ : ∃ w0, w0 = w := ⟨_, rfl⟩
 have hF : Ch (ownsB v0) w0 w := hw0 ▸ Ch.refl _ _
 have hA0 : ∀ b o, A0 b o → b < w0.heap.size := fun b o h => hw0 ▸ hA b o h
 have hA00 : AvOK A0 w0 := hA0
 rw [show Ch (ownsB v0) w = Ch (ownsB v0) w0 from hw0 ▸ rfl]
 clear hw0
 obtain ⟨A, hAe⟩ : ∃ A, A = addA A0 v0 := ⟨_, rfl⟩
 have hAA : ∀ b o, A0 b o → A b o := fun b o h => hAe ▸ .inl h
 replace hA : AvOK A w := hAe ▸ hA.one h0
 have hO : IniOK [ob v0 (.vec B0 3 (eInt .i64) p0)] A w := hAe ▸ IniOK.one h0 (fun _ _ _ _ _ h => h)
 refine calls_of_HT2 [.tmp 4] Tryd.func8 Tryd.ntmps8 (by decide) rfl rfl (Nat.le_of_ble_eq_true rfl) ?_
 intro R hR
 replace h0 : R 0 = v0 := hR 0 _ rfl
 replace h1 : R 1 = .int .i64 p1 := (hR 1 _ rfl).trans h1
 clear hR hAe
 refine HT.seq ?_
 refine HT.text (l := ⟨_, true, .raw (.int .i64 (0 : Int))⟩ :: []) (tl := []) (by kernel_rfl) (by kernel_rfl) (by kernel_rfl) ?_ ?_
 ·exact
   Obls.p (fun R' w' hw hs hd => of_assign rfl) <|
   Obls.nil
 intro R w hw hs hF'
 replace h0 := (hs 0 rfl).trans h0
 replace h1 := (hs 1 rfl).trans h1
 replace hO := hO.fr hw
 replace hA := hA.fr hw.size
 replace hF := hF.tr (hw.ch noB) fun _ h => False.elim h
 clear hs hF' hw
 refine seqR_nil ?_
 refine HT.seq ?_
 refine HT.seq ?_
 refine HT.text (l := ⟨_, true, .raw (.int .i64 (0 : Int))⟩ :: []) (tl := []) (by kernel_rfl) (by kernel_rfl) (by kernel_rfl) ?_ ?_
 ·exact
   Obls.p (fun R' w' hw hs hd => of_assign rfl) <|
   Obls.nil
 intro R w hw hs hF'
 replace h0 := (hs 0 rfl).trans h0
 replace h1 := (hs 1 rfl).trans h1
 have h5 : R 5 = .int .i64 (0 : Int) := hF' 0 _ _ rfl rfl rfl
 replace hO := hO.fr hw
 replace hA := hA.fr hw.size
 replace hF := hF.tr (hw.ch noB) fun _ h => False.elim h
 clear hs hF' hw
 refine seqR_nil ?_
 obtain ⟨rl1, q2, hr⟩ := cl_some hr
 replace q2 := q2 rfl
 refine HT.cut0 (fun R w => ∃ A : Av, ∃ (s3 : Int × (List Int)), rl1 = s3 ∧ AvOK A w ∧ Ch (ownsB v0) w0 w ∧ (∀ b o, A0 b o → A b o) ∧ IniOK [ob v0 (.vec B0 3 (eInt .i64) s3.2)] A w ∧ R 1 = .int .i64 s3.1) ?_ ?_
 ·refine HT.block ?_
  refine HT.loop (fun k R w => ∃ A : Av, ∃ (y4 : Int) (y5 : Int) (y6 : List Int), M_laws_markIntS_L0 fu k y4 y5 y6 = some rl1 ∧ AvOK A w ∧ Ch (ownsB v0) w0 w ∧ (∀ b o, A0 b o → A b o) ∧ IniOK [ob v0 (.vec B0 3 (eInt .i64) y6)] A w ∧ R 0 = v0 ∧ R 1 = .int .i64 y4 ∧ R 5 = .int .i64 y5) fu ⟨_, _, _, _, q2, hA, hF, hAA, hO, h0, h1, h5⟩ ?_
  have hr0 := hr; clear hr q2
  rintro k R w ⟨A, y4, y5, y6, hr, hA, hF, hAA, hO, h0, h1, h5⟩
  rcases k with _ | k
  ·cases (show none = some _ from hr)
  rw [M_laws_markIntS_L0] at hr
  refine HT.seq ?_
  refine HT.seq ?_
  refine HT.text (l := ⟨_, true, .raw (.int .i64 y5)⟩ :: ⟨_, true, .raw v0⟩ :: ⟨_, true, .raw (.int .i64 (y6.length : Int))⟩ :: ⟨_, true, .raw (.bool (decide (y5 < (y6.length : Int))))⟩ :: []) (tl := []) (by kernel_rfl) (by kernel_rfl) (by kernel_rfl) ?_ ?_
  ·exact
    Obls.p (fun R' w' hw hs hd => of_move ((hs 5 rfl).trans h5)) <|
    Obls.p (fun R' w' hw hs hd => of_move ((hs 0 rfl).trans h0)) <|
    Obls.p (fun R' w' hw hs hd => by have a0 : R' 7 = v0 := hd.g 0 rfl; exact of_len_vec (hO.ok 0 _ rfl).1 a0 Tryd.underlying22) <|
    Obls.p (fun R' w' hw hs hd => by have a0 : R' 6 = .int .i64 y5 := hd.g 0 rfl; have a1 : R' 8 = .int .i64 (y6.length : Int) := hd.g 1 rfl; exact of_lss a0 a1) <|
    Obls.nil
  intro R w hw hs hF'
  replace h0 := (hs 0 rfl).trans h0
  replace h1 := (hs 1 rfl).trans h1
  replace h5 := (hs 5 rfl).trans h5
  have h9 : R 9 = .bool (decide (y5 < (y6.length : Int))) := hF' 3 _ _ rfl rfl rfl
  replace hO := hO.fr hw
  replace hA := hA.fr hw.size
  replace hF := hF.tr (hw.ch noB) fun _ h => False.elim h
  clear hs hF' hw
  refine seqR_nil ?_
  refine HT.cond (decide (y5 < (y6.length : Int))) h9 (fun c7 => ?_) (fun c7 => ?_)
  ·have hr := cnd_t c7 hr
   refine HT.skip ?_
   refine HT.seq ?_
   refine HT.block ?_
   refine HT.seq ?_
   obtain ⟨e8, hr⟩ := ck_some hr
   refine HT.textR [ob v0 (.vec B0 3 (eInt .i64) y6)] (⟨_, true, [], none, true, fun A => .raw v0⟩ :: ⟨_, true, [], none, true, fun A => .raw (.int .i64 y5)⟩ :: ⟨_, true, [], none, true, fun A => .raw (.int .i64 y4)⟩ :: ⟨_, true, [], none, true, fun A => .raw (vptr v0 (y5.toNat * 1))⟩ :: ⟨_, true, [0], some (.vec B0 3 (eInt .i64) (y6.set y5.toNat y4)), false, fun A => .any⟩ :: []) (by kernel_rfl) (by kernel_rfl) (Wf.mk' (by kernel_rfl) (UAll.cons ust_raw (UAll.cons ust_raw (UAll.cons ust_raw (UAll.cons ust_raw (UAll.cons ust_any (UAll.nil)))))) (by kernel_rfl) (by kernel_rfl)) hO hA ?_ ?_
   ·exact
     OblsR.p (fun A' R' w' ho hd => of_move ((ho.old 0 rfl).trans h0)) <|
     OblsR.p (fun A' R' w' ho hd => of_move ((ho.old 5 rfl).trans h5)) <|
     OblsR.p (fun A' R' w' ho hd => of_move ((ho.old 1 rfl).trans h1)) <|
     OblsR.p (fun A' R' w' ho hd => by have a0 : R' 12 = v0 := hd.g 0 rfl; have a1 : R' 13 = .int .i64 y5 := hd.g 1 rfl; exact of_indexAddr_vec (hO.ok 0 _ rfl).1 a0 a1 Tryd.underlying22 Tryd.sizeOf3 e8 rfl) <|
     OblsR.cons (OblR.took 0 _ _ rfl rfl rfl rfl rfl fun A' R' w' ho hd u hok hav hin hop hds => by have a0 : R' 15 = (vptr v0 (y5.toNat * 1)) := hd.g 0 rfl; have a1 : R' 14 = .int .i64 y4 := hd.g 1 rfl; obtain rfl := hin _ rfl; exact took_vstore (rep_int.eq a1) hok hav a0 e8 rfl (FldS.id _) Tryd.sizeOf3 rfl) <|
     OblsR.nil
   intro done ρ σ A R w hdn hI
   replace h0 : R 0 = v0 := (hI.reg rfl).trans h0
   replace h1 : R 1 = .int .i64 y4 := (hI.reg rfl).trans h1
   replace h5 : R 5 = .int .i64 y5 := (hI.reg rfl).trans h5
   have z9 := hI.inivR 0 rfl
   have z10 := (hI.opnR hdn 5 4 rfl rfl rfl rfl rfl).trans z9
   replace hAA := hI.lowK hAA hA0 hN (hO.geK (⟨.inr (fun k h => .inr h), trivial⟩))
   replace hF : Ch (ownsB v0) w0 w := hF.tr hI.ch (hO.geK (⟨.inr (fun k h => .inr h), trivial⟩))
   replace hO : IniOK [ob v0 (.vec B0 3 (eInt .i64) (y6.set y5.toNat y4))] A w := hI.left hdn [(5, ob v0 (.vec B0 3 (eInt .i64) (y6.set y5.toNat y4)))] ⟨rfl, rfl, z10, rfl, rfl, trivial⟩
   replace hA := hI.avok
   clear hI
   obtain ⟨e11, hr⟩ := ck_some hr
   refine HT.text (l := ⟨_, true, .raw (.int .i64 y4)⟩ :: ⟨_, true, .raw (.int .i64 (y4 + (1 : Int)))⟩ :: ⟨_, true, .raw (.int .i64 (y4 + (1 : Int)))⟩ :: []) (tl := []) (by kernel_rfl) (by kernel_rfl) (by kernel_rfl) ?_ ?_
   ·exact
     Obls.p (fun R' w' hw hs hd => of_move ((hs 1 rfl).trans h1)) <|
     Obls.p (fun R' w' hw hs hd => by have a0 : R' 16 = .int .i64 y4 := hd.g 0 rfl; exact of_add a0 rfl e11) <|
     Obls.p (fun R' w' hw hs hd => by have a0 : R' 17 = .int .i64 (y4 + (1 : Int)) := hd.g 0 rfl; exact of_assign a0) <|
     Obls.nil
   intro R w hw hs hF'
   replace h0 := (hs 0 rfl).trans h0
   replace h5 := (hs 5 rfl).trans h5
   have h1 : R 1 = .int .i64 (y4 + (1 : Int)) := hF' 2 _ _ rfl rfl rfl
   replace hO := hO.fr hw
   replace hA := hA.fr hw.size
   replace hF := hF.tr (hw.ch noB) fun _ h => False.elim h
   clear hs hF' hw
   refine seqR_nil ?_
   obtain ⟨e12, hr⟩ := ck_some hr
   refine HT.text (l := ⟨_, true, .raw (.int .i64 y5)⟩ :: ⟨_, true, .raw (.int .i64 (y5 + (1 : Int)))⟩ :: ⟨_, true, .raw (.int .i64 (y5 + (1 : Int)))⟩ :: []) (tl := []) (by kernel_rfl) (by kernel_rfl) (by kernel_rfl) ?_ ?_
   ·exact
     Obls.p (fun R' w' hw hs hd => of_move ((hs 5 rfl).trans h5)) <|
     Obls.p (fun R' w' hw hs hd => by have a0 : R' 10 = .int .i64 y5 := hd.g 0 rfl; exact of_add a0 rfl e12) <|
     Obls.p (fun R' w' hw hs hd => by have a0 : R' 11 = .int .i64 (y5 + (1 : Int)) := hd.g 0 rfl; exact of_assign a0) <|
     Obls.nil
   intro R w hw hs hF'
   replace h0 := (hs 0 rfl).trans h0
   replace h1 := (hs 1 rfl).trans h1
   have h5 : R 5 = .int .i64 (y5 + (1 : Int)) := hF' 2 _ _ rfl rfl rfl
   replace hO := hO.fr hw
   replace hA := hA.fr hw.size
   replace hF := hF.tr (hw.ch noB) fun _ h => False.elim h
   clear hs hF' hw
   refine seqR_nil ?_
   exact Exists.intro k (And.intro (Nat.lt_succ_self k) ⟨_, _, _, _, hr, hA, hF, hAA, hO, h0, h1, h5⟩)
  ·have hr := cnd_f c7 hr
   refine HT.exit ?_
   obtain rfl := Option.some.inj hr
   exact Exists.intro _ ⟨_, rfl, hA, hF, hAA, hO, h1⟩
 rintro R w ⟨A, s3, es, hA, hF, hAA, hO, h1⟩
 obtain rfl := es.symm
 refine HT.seq ?_
 refine HT.text (l := ⟨_, true, .raw (.int .i64 s3.1)⟩ :: ⟨_, true, .raw (.int .i64 s3.1)⟩ :: []) (tl := []) (by kernel_rfl) (by kernel_rfl) (by kernel_rfl) ?_ ?_
 ·exact
   Obls.p (fun R' w' hw hs hd => of_move ((hs 1 rfl).trans h1)) <|
   Obls.p (fun R' w' hw hs hd => by have a0 : R' 18 = .int .i64 s3.1 := hd.g 0 rfl; exact of_assign a0) <|
   Obls.nil
 intro R w hw hs hF'
 have h4 : R 4 = .int .i64 s3.1 := hF' 1 _ _ rfl rfl rfl
 replace hO := hO.fr hw
 replace hA := hA.fr hw.size
 replace hF := hF.tr (hw.ch noB) fun _ h => False.elim h
 clear hs hF' hw
 refine seqR_nil ?_
 refine HT.ret ?_
 obtain rfl := Option.some.inj hr
 exact ⟨.inr rfl, [R 4], ⟨rfl, trivial⟩, h4, Vec.flat (hO.ok 0 _ rfl).1 (fun _ _ _ _ _ h => h), hF⟩
def M_laws_heldIntS_L0 (fu : Nat) (p0 : List Int) : Nat → Int → Int → Option (Ex Int Int)
 | 0, _, _ => none
 | k + 1, y4, y5 =>
  bif (decide (y5 < (p0.length : Int))) then (
   ck (inR y5 p0.length) <|
   bif ((gtD p0 y5) != y4) then (
    some (Ex.ret (-1 : Int))
   ) else (
    ck (i64B (y4 + (1 : Int))) <|
    ck (i64B (y5 + (1 : Int))) <|
    M_laws_heldIntS_L0 fu p0 k (y4 + (1 : Int)) (y5 + (1 : Int))
   )
  ) else (
   some (Ex.go y4)
  )
def M_laws_heldIntS (fu : Nat) (p0 : List Int) (p1 : Int) : Option Int :=
 cl true (M_laws_heldIntS_L0 fu p0 fu p1 (0 : Int)) fun rl1 =>
 exM rl1 (fun r => some r) fun s3 =>
 some s3
theorem M_laws_heldIntS_ok {fu : Nat} {A : Av} {p0 : List Int} {p1 : Int} {r : Int} (hr : M_laws_heldIntS fu p0 p1 = some r) {w : World} {v0 : Value} {v1 : Value} (hA : AvOK A w) (h0 : Rep (eSl (eInt .i64)) A w v0 p0) (h1 : v1 = .int .i64 p1) :
  Calls Tryd.prog 9 #[v0, v1] w fun e w' => ∃ v, e = .returned v ∧ (v = .int .i64 r ∧ Fr w w') := by
 unfold M_laws_heldIntS at hr
 obtain ⟨w0, hw0⟩ : ∃ w0, w0 = w := ⟨_, rfl⟩
 have hF : Fr w0 w := hw0 ▸ Fr.refl _
 rw [show Fr w = Fr w0 from hw0 ▸ rfl]
 clear hw0
 refine calls_of_HT2 [.tmp 4] Tryd.func9 Tryd.ntmps9 (by decide) rfl rfl (Nat.le_of_ble_eq_true rfl) ?_
 intro R hR
 have f_v0 := h0
 replace h0 : R 0 = v0 := hR 0 _ rfl
 replace h1 : R 1 = .int .i64 p1 := (hR 1 _ rfl).trans h1
 clear hR
 refine HT.seq ?_
 refine HT.text (l := ⟨_, true, .raw (.int .i64 (0 : Int))⟩ :: []) (tl := []) (by kernel_rfl) (by kernel_rfl) (by kernel_rfl) ?_ ?_
 ·exact
   Obls.p (fun R' w' hw hs hd => of_assign rfl) <|
   Obls.nil
 intro R w hw hs hF'
 replace h0 := (hs 0 rfl).trans h0
 replace h1 := (hs 1 rfl).trans h1
 replace f_v0 := f_v0.fr hw
 replace hA := hA.fr hw.size
 replace hF := hF.trans hw
 clear hs hF' hw
 refine seqR_nil ?_
 refine HT.seq ?_
 refine HT.seq ?_
 refine HT.text (l := ⟨_, true, .raw (.int .i64 (0 : Int))⟩ :: []) (tl := []) (by kernel_rfl) (by kernel_rfl) (by kernel_rfl) ?_ ?_
 ·exact
   Obls.p (fun R' w' hw hs hd => of_assign rfl) <|
   Obls.nil
 intro R w hw hs hF'
 replace h0 := (hs 0 rfl).trans h0
 replace h1 := (hs 1 rfl).trans h1
 have h5 : R 5 = .int .i64 (0 : Int) := hF' 0 _ _ rfl rfl rfl
 replace f_v0 := f_v0.fr hw
 replace hA := hA.fr hw.size
 replace hF := hF.trans hw
 clear hs hF' hw
 refine seqR_nil ?_
 obtain ⟨rl1, q2, hr⟩ := cl_some hr
 replace q2 := q2 rfl
 refine HT.cut0 (fun R w => ∃ (s3 : Int), rl1 = Ex.go s3 ∧ AvOK A w ∧ Fr w0 w ∧ R 1 = .int .i64 s3) ?_ ?_
 ·refine HT.block ?_
  refine HT.loop (fun k R w => ∃ (y4 : Int) (y5 : Int), M_laws_heldIntS_L0 fu p0 k y4 y5 = some rl1 ∧ AvOK A w ∧ Fr w0 w ∧ R 0 = v0 ∧ R 1 = .int .i64 y4 ∧ R 5 = .int .i64 y5 ∧ Rep (eSl (eInt .i64)) A w v0 p0) fu ⟨_, _, q2, hA, hF, h0, h1, h5, f_v0⟩ ?_
  have hr0 := hr; clear hr q2
  rintro k R w ⟨y4, y5, hr, hA, hF, h0, h1, h5, f_v0⟩
  rcases k with _ | k
  ·cases (show none = some _ from hr)
  rw [M_laws_heldIntS_L0] at hr
  refine HT.seq ?_
  refine HT.seq ?_
  refine HT.text (l := ⟨_, true, .raw (.int .i64 y5)⟩ :: ⟨_, true, .raw v0⟩ :: ⟨_, true, .raw (.int .i64 (p0.length : Int))⟩ :: ⟨_, true, .raw (.bool (decide (y5 < (p0.length : Int))))⟩ :: []) (tl := []) (by kernel_rfl) (by kernel_rfl) (by kernel_rfl) ?_ ?_
  ·exact
    Obls.p (fun R' w' hw hs hd => of_move ((hs 5 rfl).trans h5)) <|
    Obls.p (fun R' w' hw hs hd => of_move ((hs 0 rfl).trans h0)) <|
    Obls.p (fun R' w' hw hs hd => by have a0 : R' 7 = v0 := hd.g 0 rfl; have ra0 := (f_v0.fr hw).eq a0; exact of_len_sl (aT := #[]) ra0 Tryd.underlying22) <|
    Obls.p (fun R' w' hw hs hd => by have a0 : R' 6 = .int .i64 y5 := hd.g 0 rfl; have a1 : R' 8 = .int .i64 (p0.length : Int) := hd.g 1 rfl; exact of_lss a0 a1) <|
    Obls.nil
  intro R w hw hs hF'
  replace h0 := (hs 0 rfl).trans h0
  replace h1 := (hs 1 rfl).trans h1
  replace h5 := (hs 5 rfl).trans h5
  have h9 : R 9 = .bool (decide (y5 < (p0.length : Int))) := hF' 3 _ _ rfl rfl rfl
  replace f_v0 := f_v0.fr hw
  replace hA := hA.fr hw.size
  replace hF := hF.trans hw
  clear hs hF' hw
  refine seqR_nil ?_
  refine HT.cond (decide (y5 < (p0.length : Int))) h9 (fun c6 => ?_) (fun c6 => ?_)
  ·have hr := cnd_t c6 hr
   refine HT.skip ?_
   refine HT.seq ?_
   refine HT.block ?_
   refine HT.seq ?_
   refine HT.seq ?_
   obtain ⟨e7, hr⟩ := ck_some hr
   refine HT.text (l := ⟨_, true, .raw v0⟩ :: ⟨_, true, .raw (.int .i64 y5)⟩ :: ⟨_, true, .qtr (eInt .i64) A (gtD p0 y5)⟩ :: ⟨_, true, .raw (.int .i64 (gtD p0 y5))⟩ :: ⟨_, true, .raw (.int .i64 y4)⟩ :: ⟨_, true, .raw (.bool ((gtD p0 y5) != y4))⟩ :: []) (tl := []) (by kernel_rfl) (by kernel_rfl) (by kernel_rfl) ?_ ?_
   ·exact
     Obls.p (fun R' w' hw hs hd => of_move ((hs 0 rfl).trans h0)) <|
     Obls.p (fun R' w' hw hs hd => of_move ((hs 5 rfl).trans h5)) <|
     Obls.p (fun R' w' hw hs hd => by have a0 : R' 12 = v0 := hd.g 0 rfl; have a1 : R' 13 = .int .i64 y5 := hd.g 1 rfl; have ra0 := (f_v0.fr hw).eq a0; exact of_indexAddr ra0 a1 Tryd.underlying22 Tryd.sizeOf3 e7) <|
     Obls.p (fun R' w' hw hs hd => by have a0 : QRep (eInt .i64) A w' (R' 14) (gtD p0 y5) := hd.g 0 rfl; exact OpF.int (of_load a0.ptr Tryd.isAgg3 Tryd.sizeOf3)) <|
     Obls.p (fun R' w' hw hs hd => of_move ((hs 1 rfl).trans h1)) <|
     Obls.p (fun R' w' hw hs hd => by have a0 : R' 15 = .int .i64 (gtD p0 y5) := hd.g 0 rfl; have a1 : R' 16 = .int .i64 y4 := hd.g 1 rfl; exact of_neq a0 a1) <|
     Obls.nil
   intro R w hw hs hF'
   replace h0 := (hs 0 rfl).trans h0
   replace h1 := (hs 1 rfl).trans h1
   replace h5 := (hs 5 rfl).trans h5
   have h17 : R 17 = .bool ((gtD p0 y5) != y4) := hF' 5 _ _ rfl rfl rfl
   replace f_v0 := f_v0.fr hw
   replace hA := hA.fr hw.size
   replace hF := hF.trans hw
   clear hs hF' hw
   refine seqR_nil ?_
   refine HT.cond ((gtD p0 y5) != y4) h17 (fun c8 => ?_) (fun c8 => ?_)
   ·have hr := cnd_t c8 hr
    refine HT.seq ?_
    refine HT.text (l := ⟨_, true, .raw (.int .i64 (-1 : Int))⟩ :: []) (tl := []) (by kernel_rfl) (by kernel_rfl) (by kernel_rfl) ?_ ?_
    ·exact
      Obls.p (fun R' w' hw hs hd => of_assign rfl) <|
      Obls.nil
    intro R w hw hs hF'
    have h4 : R 4 = .int .i64 (-1 : Int) := hF' 0 _ _ rfl rfl rfl
    replace hA := hA.fr hw.size
    replace hF := hF.trans hw
    clear hs hF' hw
    refine seqR_nil ?_
    refine HT.ret ?_
    obtain rfl := Option.some.inj hr
    have hr := hr0
    replace hr : some _ = some _ := hr
    obtain rfl := Option.some.inj hr
    exact ⟨.inr rfl, [R 4], ⟨rfl, trivial⟩, h4, hF⟩
   ·have hr := cnd_f c8 hr
    refine HT.skip ?_
    obtain ⟨e9, hr⟩ := ck_some hr
    refine HT.text (l := ⟨_, true, .raw (.int .i64 y4)⟩ :: ⟨_, true, .raw (.int .i64 (y4 + (1 : Int)))⟩ :: ⟨_, true, .raw (.int .i64 (y4 + (1 : Int)))⟩ :: []) (tl := []) (by kernel_rfl) (by kernel_rfl) (by kernel_rfl) ?_ ?_
    ·exact
      Obls.p (fun R' w' hw hs hd => of_move ((hs 1 rfl).trans h1)) <|
      Obls.p (fun R' w' hw hs hd => by have a0 : R' 18 = .int .i64 y4 := hd.g 0 rfl; exact of_add a0 rfl e9) <|
      Obls.p (fun R' w' hw hs hd => by have a0 : R' 19 = .int .i64 (y4 + (1 : Int)) := hd.g 0 rfl; exact of_assign a0) <|
      Obls.nil
    intro R w hw hs hF'
    replace h0 := (hs 0 rfl).trans h0
    replace h5 := (hs 5 rfl).trans h5
    have h1 : R 1 = .int .i64 (y4 + (1 : Int)) := hF' 2 _ _ rfl rfl rfl
    replace f_v0 := f_v0.fr hw
    replace hA := hA.fr hw.size
    replace hF := hF.trans hw
    clear hs hF' hw
    refine seqR_nil ?_
    obtain ⟨e10, hr⟩ := ck_some hr
    refine HT.text (l := ⟨_, true, .raw (.int .i64 y5)⟩ :: ⟨_, true, .raw (.int .i64 (y5 + (1 : Int)))⟩ :: ⟨_, true, .raw (.int .i64 (y5 + (1 : Int)))⟩ :: []) (tl := []) (by kernel_rfl) (by kernel_rfl) (by kernel_rfl) ?_ ?_
    ·exact
      Obls.p (fun R' w' hw hs hd => of_move ((hs 5 rfl).trans h5)) <|
      Obls.p (fun R' w' hw hs hd => by have a0 : R' 10 = .int .i64 y5 := hd.g 0 rfl; exact of_add a0 rfl e10) <|
      Obls.p (fun R' w' hw hs hd => by have a0 : R' 11 = .int .i64 (y5 + (1 : Int)) := hd.g 0 rfl; exact of_assign a0) <|
      Obls.nil
    intro R w hw hs hF'
    replace h0 := (hs 0 rfl).trans h0
    replace h1 := (hs 1 rfl).trans h1
    have h5 : R 5 = .int .i64 (y5 + (1 : Int)) := hF' 2 _ _ rfl rfl rfl
    replace f_v0 := f_v0.fr hw
    replace hA := hA.fr hw.size
    replace hF := hF.trans hw
    clear hs hF' hw
    refine seqR_nil ?_
    exact Exists.intro k (And.intro (Nat.lt_succ_self k) ⟨_, _, hr, hA, hF, h0, h1, h5, f_v0⟩)
  ·have hr := cnd_f c6 hr
   refine HT.exit ?_
   obtain rfl := Option.some.inj hr
   exact Exists.intro _ ⟨rfl, hA, hF, h1⟩
 rintro R w ⟨s3, rfl, hA, hF, h1⟩
 have hr := exM_go hr
 refine HT.seq ?_
 refine HT.text (l := ⟨_, true, .raw (.int .i64 s3)⟩ :: ⟨_, true, .raw (.int .i64 s3)⟩ :: []) (tl := []) (by kernel_rfl) (by kernel_rfl) (by kernel_rfl) ?_ ?_
 ·exact
   Obls.p (fun R' w' hw hs hd => of_move ((hs 1 rfl).trans h1)) <|
   Obls.p (fun R' w' hw hs hd => by have a0 : R' 20 = .int .i64 s3 := hd.g 0 rfl; exact of_assign a0) <|
   Obls.nil
 intro R w hw hs hF'
 have h4 : R 4 = .int .i64 s3 := hF' 1 _ _ rfl rfl rfl
 replace hA := hA.fr hw.size
 replace hF := hF.trans hw
 clear hs hF' hw
 refine seqR_nil ?_
 refine HT.ret ?_
 obtain rfl := Option.some.inj hr
 exact ⟨.inr rfl, [R 4], ⟨rfl, trivial⟩, h4, hF⟩
def M_laws_FnExactParseFeatures (fu : Nat) (p0 : List UInt8) : Option Bool :=
 bif (decide ((1048576 : Int) < (p0.length : Int))) then (
  some true
 ) else (
  cl true (M_spec_ParseFeatures fu p0) fun x2 =>
  cl true (M_impl_ParseFeatures fu p0) fun x5 =>
  cl true (M_laws_eqIntS fu x5.1 x2.1) fun x9 =>
  bd ((!x9) || (x5.2 != x2.2)) fun x11 =>
  bif x11 then (
   some false
  ) else (
   cl true (M_laws_markIntS fu x5.1 (1 : Int)) fun x14 =>
   cl true (M_laws_heldIntS fu x14.2 (1 : Int)) fun x18 =>
   bif (decide (x18 < (0 : Int))) then (
    some false
   ) else (
    bif (x18 != x14.1) then (
     some false
    ) else (
     cl true (M_impl_ParseFeatures fu p0) fun x22 =>
     cl true (M_laws_eqIntS fu x22.1 x2.1) fun x25 =>
     bd ((!x25) || (x22.2 != x2.2)) fun x27 =>
     bif x27 then (
      some false
     ) else (
      cl true (M_laws_heldIntS fu x14.2 (1 : Int)) fun x30 =>
      bif (decide (x30 < (0 : Int))) then (
       some false
      ) else (
       bif (x30 != x14.1) then (
        some false
       ) else (
        some true
       )
      )
     )
    )
   )
  )
 )
theorem M_laws_FnExactParseFeatures_ok {fu : Nat} {A0 : Av} {p0 : List UInt8} {r : Bool} (hr : M_laws_FnExactParseFeatures fu p0 = some r) {w : World} {v0 : Value} (hA : AvOK A0 w) (hG : GTab w) (h0 : Rep eStr A0 w v0 p0) :
  Calls Tryd.prog 3 #[v0] w fun e w' => ∃ v, e = .returned v ∧ (v = .bool r ∧ Fr w w') := by
 unfold M_laws_FnExactParseFeatures at hr
 obtain ⟨w0, hw0⟩ : ∃ w0, w0 = w := ⟨_, rfl⟩
 have hF : Fr w0 w := hw0 ▸ Fr.refl _
 have hA0 : ∀ b o, A0 b o → b < w0.heap.size := fun b o h => hw0 ▸ hA b o h
 have hA00 : AvOK A0 w0 := hA0
 rw [show Fr w = Fr w0 from hw0 ▸ rfl]
 have hG0 : GTab w0 := hw0 ▸ hG
 clear hw0
 obtain ⟨A, hAe⟩ : ∃ A, A = A0 := ⟨_, rfl⟩
 have hAA : ∀ b o, A0 b o → A b o := fun b o h => hAe ▸ h
 replace hA : AvOK A w := hAe ▸ hA
 have hO : IniOK [] A w := IniOK.nil
 refine calls_of_HT2 [.tmp 2] Tryd.func3 Tryd.ntmps3 (by decide) rfl rfl (Nat.le_of_ble_eq_true rfl) ?_
 intro R hR
 have f_v0 : Rep eStr A w v0 p0 := hAe ▸ h0
 replace h0 : R 0 = v0 := hR 0 _ rfl
 clear hR hAe
 refine HT.seq ?_
 refine HT.text (l := ⟨_, true, .raw (.bool false)⟩ :: []) (tl := []) (by kernel_rfl) (by kernel_rfl) (by kernel_rfl) ?_ ?_
 ·exact
   Obls.p (fun R' w' hw hs hd => of_assign rfl) <|
   Obls.nil
 intro R w hw hs hF'
 replace h0 := (hs 0 rfl).trans h0
 replace f_v0 := f_v0.fr hw
 replace hO := hO.fr hw
 replace hA := hA.fr hw.size
 replace hF := hF.trans hw
 clear hs hF' hw
 refine seqR_nil ?_
 refine HT.seq ?_
 refine HT.seq ?_
 refine HT.text (l := ⟨_, true, .raw v0⟩ :: ⟨_, true, .raw (.int .i64 (p0.length : Int))⟩ :: ⟨_, true, .raw (.bool (decide ((1048576 : Int) < (p0.length : Int))))⟩ :: []) (tl := []) (by kernel_rfl) (by kernel_rfl) (by kernel_rfl) ?_ ?_
 ·exact
   Obls.p (fun R' w' hw hs hd => of_move ((hs 0 rfl).trans h0)) <|
   Obls.p (fun R' w' hw hs hd => by have a0 : R' 11 = v0 := hd.g 0 rfl; have ra0 := (f_v0.fr hw).eq a0; exact of_len_str ra0 Tryd.underlying9) <|
   Obls.p (fun R' w' hw hs hd => by have a0 : R' 12 = .int .i64 (p0.length : Int) := hd.g 0 rfl; exact of_gtr a0 rfl) <|
   Obls.nil
 intro R w hw hs hF'
 replace h0 := (hs 0 rfl).trans h0
 have h13 : R 13 = .bool (decide ((1048576 : Int) < (p0.length : Int))) := hF' 2 _ _ rfl rfl rfl
 replace f_v0 := f_v0.fr hw
 replace hO := hO.fr hw
 replace hA := hA.fr hw.size
 replace hF := hF.trans hw
 clear hs hF' hw
 refine seqR_nil ?_
 refine HT.cond (decide ((1048576 : Int) < (p0.length : Int))) h13 (fun c1 => ?_) (fun c1 => ?_)
 ·have hr := cnd_t c1 hr
  refine HT.seq ?_
  refine HT.text (l := ⟨_, true, .raw (.bool true)⟩ :: []) (tl := []) (by kernel_rfl) (by kernel_rfl) (by kernel_rfl) ?_ ?_
  ·exact
    Obls.p (fun R' w' hw hs hd => of_assign rfl) <|
    Obls.nil
  intro R w hw hs hF'
  have h2 : R 2 = .bool true := hF' 0 _ _ rfl rfl rfl
  replace hO := hO.fr hw
  replace hA := hA.fr hw.size
  replace hF := hF.trans hw
  clear hs hF' hw
  refine seqR_nil ?_
  refine HT.ret ?_
  obtain rfl := Option.some.inj hr
  exact ⟨.inr rfl, [R 2], ⟨rfl, trivial⟩, h2, hF⟩
 ·have hr := cnd_f c1 hr
  refine HT.skip ?_
  refine HT.seq ?_
  obtain ⟨x2, q3, hr⟩ := cl_some hr
  refine HT.text (l := ⟨_, true, .raw v0⟩ :: ⟨_, true, .tup2 (.rep (eSl (eInt .i64)) A x2.1) (.raw (.bool x2.2))⟩ :: ⟨_, true, .tup2 (.rep (eSl (eInt .i64)) A x2.1) (.raw (.bool x2.2))⟩ :: ⟨_, true, .rep (eSl (eInt .i64)) A x2.1⟩ :: ⟨_, true, .raw (.bool x2.2)⟩ :: ⟨_, true, .rep (eSl (eInt .i64)) A x2.1⟩ :: ⟨_, true, .raw (.bool x2.2)⟩ :: []) (tl := []) (by kernel_rfl) (by kernel_rfl) (by kernel_rfl) ?_ ?_
  ·exact
    Obls.p (fun R' w' hw hs hd => of_move ((hs 0 rfl).trans h0)) <|
    Obls.p (fun R' w' hw hs hd => by have a0 : R' 15 = v0 := hd.g 0 rfl; have ra0 := (f_v0.fr hw).eq a0; exact of_call Tryd.call5 (M_spec_ParseFeatures_ok (q3 rfl) (hA.fr hw.size) ra0)) <|
    Obls.p (fun R' w' hw hs hd => by have a0 : Fact.ok (.tup2 (.rep (eSl (eInt .i64)) A x2.1) (.raw (.bool x2.2))) (R' 16) w' := hd.g 0 rfl; exact of_move a0) <|
    Obls.p (fun R' w' hw hs hd => by have a0 : Fact.ok (.tup2 (.rep (eSl (eInt .i64)) A x2.1) (.raw (.bool x2.2))) (R' 14) w' := hd.g 0 rfl; exact of_extract2_0 a0) <|
    Obls.p (fun R' w' hw hs hd => by have a0 : Fact.ok (.tup2 (.rep (eSl (eInt .i64)) A x2.1) (.raw (.bool x2.2))) (R' 14) w' := hd.g 0 rfl; exact of_extract2_1 a0) <|
    Obls.p (fun R' w' hw hs hd => by have a0 : Rep (eSl (eInt .i64)) A w' (R' 17) x2.1 := hd.g 0 rfl; exact of_assign a0) <|
    Obls.p (fun R' w' hw hs hd => by have a0 : R' 18 = .bool x2.2 := hd.g 0 rfl; exact of_assign a0) <|
    Obls.nil
  intro R w hw hs hF'
  replace h0 := (hs 0 rfl).trans h0
  obtain ⟨u4, h3, f_u4⟩ : ∃ u, R 3 = u ∧ Rep (eSl (eInt .i64)) A w u x2.1 := ⟨_, rfl, hF' 5 _ _ rfl rfl rfl⟩
  have h4 : R 4 = .bool x2.2 := hF' 6 _ _ rfl rfl rfl
  replace f_v0 := f_v0.fr hw
  replace hO := hO.fr hw
  replace hA := hA.fr hw.size
  replace hF := hF.trans hw
  clear hs hF' hw
  refine seqR_nil ?_
  refine HT.seq ?_
  refine SG.of ?_
  refine SG.textR [] (⟨_, true, [], none, true, fun A => .raw v0⟩ :: []) 1 rfl rfl rfl (by kernel_rfl) (by kernel_rfl) (Wf.mk' (by kernel_rfl) (UAll.cons ust_raw (UAll.nil)) (by kernel_rfl) (by kernel_rfl)) hO hA (trivial) ?_ ?_
  ·exact
    OblsR.p (fun A' R' w' ho hd => of_move ((ho.old 0 rfl).trans h0)) <|
    OblsR.nil
  intro done ρ σ A R w hdn hI
  replace h0 : R 0 = v0 := (hI.reg rfl).trans h0
  replace h3 : R 3 = u4 := (hI.reg rfl).trans h3
  replace h4 : R 4 = .bool x2.2 := (hI.reg rfl).trans h4
  have h20 : R 20 = v0 := hI.fact hdn (i := 0) rfl rfl rfl
  replace f_u4 := f_u4.stp hI.stp
  replace f_v0 := f_v0.stp hI.stp
  replace hAA := hI.low' hAA hA0 (hO.ge (trivial))
  replace hF : Fr w0 w := hF.tr hI.ch (hO.ge (trivial))
  replace hO : IniOK [] A w := hI.left hdn [] trivial
  replace hA := hI.avok
  clear hI
  obtain ⟨x5, q6, hr⟩ := cl_some hr
  have hFz : w0.heap.size ≤ w.heap.size := hF.size
  refine SG.op 21 rfl rfl rfl rfl (call_run Tryd.call6 (M_impl_ParseFeatures_ok (q6 rfl) hA (hG0.fr hF) (f_v0.eq h20))) ?_
  rintro v_ w ⟨u7, A, hG1, hv⟩ R hs hd
  obtain ⟨hO2, hst⟩ := GPost.next0 hO hA hG1
  replace hO := hO2
  replace hA := hG1.avok
  replace hAA : ∀ b o, A0 b o → A b o := fun b o h => hG1.low b o (hAA b o h)
  replace hF : Fr w0 w := hF.trans hG1.ch.no
  replace hO := hO.reV (B' := w0.heap.size) 0 rfl hFz
  replace hO : IniOK [ob u7 (.vec w0.heap.size 3 (eInt .i64) x5.1)] A w := hO
  replace h0 := (hs 0 rfl).trans h0
  replace h3 := (hs 3 rfl).trans h3
  replace h4 := (hs 4 rfl).trans h4
  replace h20 := (hs 20 rfl).trans h20
  replace f_u4 := f_u4.stp hst
  replace f_v0 := f_v0.stp hst
  have h21 : Fact.ok (.tup2 (.raw u7) (.raw (.bool x5.2))) (R 21) w := hd ▸ hv
  clear hFz hG1 hv hs hd
  refine SG.textR [ob u7 (.vec w0.heap.size 3 (eInt .i64) x5.1)] (⟨_, true, [], none, true, fun A => .raw v0⟩ :: ⟨_, true, [], none, true, fun A => .tup2 (.raw u7) (.raw (.bool x5.2))⟩ :: ⟨_, true, [], none, true, fun A => .tup2 (.raw u7) (.raw (.bool x5.2))⟩ :: ⟨_, true, [], none, true, fun A => .raw u7⟩ :: ⟨_, true, [], none, true, fun A => .raw (.bool x5.2)⟩ :: ⟨_, true, [], none, true, fun A => .raw u7⟩ :: ⟨_, true, [], none, true, fun A => .raw (.bool x5.2)⟩ :: []) 7 rfl rfl rfl (by kernel_rfl) (by kernel_rfl) (Wf.mk' (by kernel_rfl) (UAll.cons ust_raw (UAll.cons (ust_tup2 ust_raw ust_raw) (UAll.cons (ust_tup2 ust_raw ust_raw) (UAll.cons ust_raw (UAll.cons ust_raw (UAll.cons ust_raw (UAll.cons ust_raw (UAll.nil)))))))) (by kernel_rfl) (by kernel_rfl)) hO hA (⟨⟨rfl, rfl, rfl, h20⟩, ⟨⟨rfl, rfl, rfl, h21⟩, trivial⟩⟩) ?_ ?_
  ·exact
    OblsR.p (fun A' R' w' ho hd => by have a0 : Fact.ok (.tup2 (.raw u7) (.raw (.bool x5.2))) (R' 21) w' := hd.g 0 rfl; exact of_move a0) <|
    OblsR.p (fun A' R' w' ho hd => by have a0 : Fact.ok (.tup2 (.raw u7) (.raw (.bool x5.2))) (R' 19) w' := hd.g 0 rfl; exact of_extract2_0 a0) <|
    OblsR.p (fun A' R' w' ho hd => by have a0 : Fact.ok (.tup2 (.raw u7) (.raw (.bool x5.2))) (R' 19) w' := hd.g 0 rfl; exact of_extract2_1 a0) <|
    OblsR.p (fun A' R' w' ho hd => by have a0 : R' 22 = u7 := hd.g 0 rfl; exact of_assign a0) <|
    OblsR.p (fun A' R' w' ho hd => by have a0 : R' 23 = .bool x5.2 := hd.g 0 rfl; exact of_assign a0) <|
    OblsR.nil
  intro done ρ σ A R w hdn hI
  replace h0 : R 0 = v0 := (hI.reg rfl).trans h0
  replace h3 : R 3 = u4 := (hI.reg rfl).trans h3
  replace h4 : R 4 = .bool x2.2 := (hI.reg rfl).trans h4
  have z8 := hI.inivR 0 rfl
  have h5 : R 5 = u7 := hI.fact hdn (i := 5) rfl rfl rfl
  have h6 : R 6 = .bool x5.2 := hI.fact hdn (i := 6) rfl rfl rfl
  replace f_u4 := f_u4.stp hI.stp
  replace f_v0 := f_v0.stp hI.stp
  replace hAA := hI.low' hAA hA0 (hO.ge (⟨rfl, trivial⟩))
  replace hF : Fr w0 w := hF.tr hI.ch (hO.ge (⟨rfl, trivial⟩))
  replace hO : IniOK [ob u7 (.vec w0.heap.size 3 (eInt .i64) x5.1)] A w := hI.left hdn [(0, ob u7 (.vec w0.heap.size 3 (eInt .i64) x5.1))] ⟨rfl, rfl, z8, rfl, rfl, trivial⟩
  replace hA := hI.avok
  clear hI
  refine SG.fin rfl ?_
  refine HT.seq ?_
  refine HT.seq ?_
  obtain ⟨x9, q10, hr⟩ := cl_some hr
  obtain ⟨x11, q12, hr⟩ := bd_some hr
  refine HT.text (l := ⟨_, true, .raw u7⟩ :: ⟨_, true, .raw u4⟩ :: ⟨_, true, .raw (.bool x9)⟩ :: ⟨_, true, .raw (.bool (!x9))⟩ :: ⟨_, true, .raw (.bool (!x9))⟩ :: ⟨_, (true && ((!x9) == false)), .raw (.bool x5.2)⟩ :: ⟨_, (true && ((!x9) == false)), .raw (.bool x2.2)⟩ :: ⟨_, (true && ((!x9) == false)), .raw (.bool (x5.2 != x2.2))⟩ :: ⟨_, true, .raw (.bool x11)⟩ :: []) (tl := []) (by kernel_rfl) (by kernel_rfl) (by kernel_rfl) ?_ ?_
  ·exact
    Obls.p (fun R' w' hw hs hd => of_move ((hs 5 rfl).trans h5)) <|
    Obls.p (fun R' w' hw hs hd => of_move ((hs 3 rfl).trans h3)) <|
    Obls.p (fun R' w' hw hs hd => by have a0 : R' 24 = u7 := hd.g 0 rfl; have ra0 := (vec_rep ((hO.fr hw).ok 0 _ rfl).1 hAA hA0).eq a0; have a1 : R' 25 = u4 := hd.g 1 rfl; have ra1 := (f_u4.fr hw).eq a1; exact of_call Tryd.call7 (M_laws_eqIntS_ok (q10 rfl) (hA00.fr ((Nat.le_trans hF.size hw.size))) ra0 (ra1.down hAA))) <|
    Obls.p (fun R' w' hw hs hd => by have a0 : R' 26 = .bool x9 := hd.g 0 rfl; exact of_not a0) <|
    Obls.p (fun R' w' hw hs hd => by have a0 : R' 27 = .bool (!x9) := hd.g 0 rfl; exact of_move a0) <|
    Obls.cons (Obl.grd 4 false _ _ _ rfl rfl rfl rfl rfl (by kernel_rfl) fun hg R' w' hw hs hd => by have a0 : R' 6 = .bool x5.2 := (hs 6 rfl).trans h6; exact of_move a0) <|
    Obls.cons (Obl.grd 4 false _ _ _ rfl rfl rfl rfl rfl (by kernel_rfl) fun hg R' w' hw hs hd => by have a0 : R' 4 = .bool x2.2 := (hs 4 rfl).trans h4; exact of_move a0) <|
    Obls.cons (Obl.grd 4 false _ _ _ rfl rfl rfl rfl rfl (by kernel_rfl) fun hg R' w' hw hs hd => by have a0 : R' 29 = .bool x5.2 := hd 0 _ _ _ rfl rfl rfl rfl hg; have a1 : R' 30 = .bool x2.2 := hd 1 _ _ _ rfl rfl rfl rfl hg; exact of_bneq Tryd.underlying4 a0 a1) <|
    Obls.p (fun R' w' hw hs hd => by have a0 : R' 28 = .bool (!x9) := hd.g 0 rfl; exact of_pick (!x9) a0 (fun hc => by show _ = Value.bool x11; rw [q12, hc]; exact rfl) (fun hc => by have a2 : R' 31 = .bool (x5.2 != x2.2) := hd 1 _ _ _ rfl rfl rfl rfl (g_and rfl (beq_of hc)); show _ = Value.bool x11; rw [q12, hc]; exact a2)) <|
    Obls.nil
  intro R w hw hs hF'
  replace h0 := (hs 0 rfl).trans h0
  replace h3 := (hs 3 rfl).trans h3
  replace h4 := (hs 4 rfl).trans h4
  replace h5 := (hs 5 rfl).trans h5
  have h32 : R 32 = .bool x11 := hF' 8 _ _ rfl rfl rfl
  replace f_u4 := f_u4.fr hw
  replace f_v0 := f_v0.fr hw
  replace hO := hO.fr hw
  replace hA := hA.fr hw.size
  replace hF := hF.trans hw
  clear hs hF' hw
  refine seqR_nil ?_
  refine HT.cond x11 h32 (fun c13 => ?_) (fun c13 => ?_)
  ·have hr := cnd_t c13 hr
   refine HT.seq ?_
   refine HT.text (l := ⟨_, true, .raw (.bool false)⟩ :: []) (tl := []) (by kernel_rfl) (by kernel_rfl) (by kernel_rfl) ?_ ?_
   ·exact
     Obls.p (fun R' w' hw hs hd => of_assign rfl) <|
     Obls.nil
   intro R w hw hs hF'
   have h2 : R 2 = .bool false := hF' 0 _ _ rfl rfl rfl
   replace hO := hO.fr hw
   replace hO : IniOK [] A w := hO.sub [] trivial
   replace hA := hA.fr hw.size
   replace hF := hF.trans hw
   clear hs hF' hw
   refine seqR_nil ?_
   refine HT.ret ?_
   obtain rfl := Option.some.inj hr
   exact ⟨.inr rfl, [R 2], ⟨rfl, trivial⟩, h2, hF⟩
  ·have hr := cnd_f c13 hr
   refine HT.skip ?_
   refine HT.seq ?_
   refine HT.text (l := ⟨_, true, .raw (.int .i64 (1 : Int))⟩ :: []) (tl := []) (by kernel_rfl) (by kernel_rfl) (by kernel_rfl) ?_ ?_
   ·exact
     Obls.p (fun R' w' hw hs hd => of_assign rfl) <|
     Obls.nil
   intro R w hw hs hF'
   replace h0 := (hs 0 rfl).trans h0
   replace h3 := (hs 3 rfl).trans h3
   replace h4 := (hs 4 rfl).trans h4
   replace h5 := (hs 5 rfl).trans h5
   have h7 : R 7 = .int .i64 (1 : Int) := hF' 0 _ _ rfl rfl rfl
   replace f_u4 := f_u4.fr hw
   replace f_v0 := f_v0.fr hw
   replace hO := hO.fr hw
   replace hA := hA.fr hw.size
   replace hF := hF.trans hw
   clear hs hF' hw
   refine seqR_nil ?_
   refine HT.seq ?_
   obtain ⟨x14, q15, hr⟩ := cl_some hr
   refine HT.textR [ob u7 (.vec w0.heap.size 3 (eInt .i64) x5.1)] (⟨_, true, [], none, true, fun A => .raw u7⟩ :: ⟨_, true, [], none, true, fun A => .raw (.int .i64 (1 : Int))⟩ :: ⟨_, true, [0], some (.vec w0.heap.size 3 (eInt .i64) x14.2), false, fun A => .raw (.int .i64 x14.1)⟩ :: ⟨_, true, [], none, true, fun A => .raw (.int .i64 x14.1)⟩ :: []) (by kernel_rfl) (by kernel_rfl) (Wf.mk' (by kernel_rfl) (UAll.cons ust_raw (UAll.cons ust_raw (UAll.cons ust_raw (UAll.cons ust_raw (UAll.nil))))) (by kernel_rfl) (by kernel_rfl)) hO hA ?_ ?_
   ·exact
     OblsR.p (fun A' R' w' ho hd => of_move ((ho.old 5 rfl).trans h5)) <|
     OblsR.p (fun A' R' w' ho hd => of_move ((ho.old 7 rfl).trans h7)) <|
     OblsR.cons (OblR.took 0 _ _ rfl rfl rfl rfl rfl fun A' R' w' ho hd u hok hav hin hop hds => by have a0 : R' 33 = u7 := hd.g 0 rfl; have a1 : R' 34 = .int .i64 (1 : Int) := hd.g 1 rfl; have hu0 : evalR R' (.tmp 33) = u := a0.trans (hin _ rfl).symm; exact took_call Tryd.call8 hav (fun _ _ _ _ _ h => h) (by simp only [List.map, hu0]; exact Calls.mono (M_laws_markIntS_ok (q15 rfl) (ho.av.sub _) (fun b o h => h.2) (Vec.flat hok (fun _ _ _ _ _ h => h)) a1) (fun _ _ ⟨v, h1, h2, h3, h4⟩ => ⟨v, h1, h2, h3, h4⟩))) <|
     OblsR.p (fun A' R' w' ho hd => by have a0 : R' 35 = .int .i64 x14.1 := hd.g 0 rfl; exact of_assign a0) <|
     OblsR.nil
   intro done ρ σ A R w hdn hI
   replace h0 : R 0 = v0 := (hI.reg rfl).trans h0
   replace h3 : R 3 = u4 := (hI.reg rfl).trans h3
   replace h4 : R 4 = .bool x2.2 := (hI.reg rfl).trans h4
   replace h5 : R 5 = u7 := (hI.reg rfl).trans h5
   have z16 := hI.inivR 0 rfl
   have z17 := (hI.opnR hdn 3 2 rfl rfl rfl rfl rfl).trans z16
   have h7 : R 7 = .int .i64 x14.1 := hI.fact hdn (i := 3) rfl rfl rfl
   replace f_u4 := f_u4.stp hI.stp
   replace f_v0 := f_v0.stp hI.stp
   replace hAA := hI.low' hAA hA0 (hO.ge (⟨rfl, trivial⟩))
   replace hF : Fr w0 w := hF.tr hI.ch (hO.ge (⟨rfl, trivial⟩))
   replace hO : IniOK [ob u7 (.vec w0.heap.size 3 (eInt .i64) x14.2)] A w := hI.left hdn [(3, ob u7 (.vec w0.heap.size 3 (eInt .i64) x14.2))] ⟨rfl, rfl, z17, rfl, rfl, trivial⟩
   replace hA := hI.avok
   clear hI
   refine HT.seq ?_
   refine HT.text (l := ⟨_, true, .raw (.int .i64 (1 : Int))⟩ :: []) (tl := []) (by kernel_rfl) (by kernel_rfl) (by kernel_rfl) ?_ ?_
   ·exact
     Obls.p (fun R' w' hw hs hd => of_assign rfl) <|
     Obls.nil
   intro R w hw hs hF'
   replace h0 := (hs 0 rfl).trans h0
   replace h3 := (hs 3 rfl).trans h3
   replace h4 := (hs 4 rfl).trans h4
   replace h5 := (hs 5 rfl).trans h5
   replace h7 := (hs 7 rfl).trans h7
   have h8 : R 8 = .int .i64 (1 : Int) := hF' 0 _ _ rfl rfl rfl
   replace f_u4 := f_u4.fr hw
   replace f_v0 := f_v0.fr hw
   replace hO := hO.fr hw
   replace hA := hA.fr hw.size
   replace hF := hF.trans hw
   clear hs hF' hw
   refine seqR_nil ?_
   refine HT.seq ?_
   obtain ⟨x18, q19, hr⟩ := cl_some hr
   refine HT.text (l := ⟨_, true, .raw u7⟩ :: ⟨_, true, .raw (.int .i64 (1 : Int))⟩ :: ⟨_, true, .raw (.int .i64 x18)⟩ :: ⟨_, true, .raw (.int .i64 x18)⟩ :: []) (tl := []) (by kernel_rfl) (by kernel_rfl) (by kernel_rfl) ?_ ?_
   ·exact
     Obls.p (fun R' w' hw hs hd => of_move ((hs 5 rfl).trans h5)) <|
     Obls.p (fun R' w' hw hs hd => of_move ((hs 8 rfl).trans h8)) <|
     Obls.p (fun R' w' hw hs hd => by have a0 : R' 36 = u7 := hd.g 0 rfl; have ra0 := (vec_rep ((hO.fr hw).ok 0 _ rfl).1 hAA hA0).eq a0; have a1 : R' 37 = .int .i64 (1 : Int) := hd.g 1 rfl; exact of_call Tryd.call9 (M_laws_heldIntS_ok (q19 rfl) (hA00.fr ((Nat.le_trans hF.size hw.size))) ra0 a1)) <|
     Obls.p (fun R' w' hw hs hd => by have a0 : R' 38 = .int .i64 x18 := hd.g 0 rfl; exact of_assign a0) <|
     Obls.nil
   intro R w hw hs hF'
   replace h0 := (hs 0 rfl).trans h0
   replace h3 := (hs 3 rfl).trans h3
   replace h4 := (hs 4 rfl).trans h4
   replace h5 := (hs 5 rfl).trans h5
   replace h7 := (hs 7 rfl).trans h7
   have h8 : R 8 = .int .i64 x18 := hF' 3 _ _ rfl rfl rfl
   replace f_u4 := f_u4.fr hw
   replace f_v0 := f_v0.fr hw
   replace hO := hO.fr hw
   replace hA := hA.fr hw.size
   replace hF := hF.trans hw
   clear hs hF' hw
   refine seqR_nil ?_
   refine HT.seq ?_
   refine HT.seq ?_
   refine HT.text (l := ⟨_, true, .raw (.int .i64 x18)⟩ :: ⟨_, true, .raw (.bool (decide (x18 < (0 : Int))))⟩ :: []) (tl := []) (by kernel_rfl) (by kernel_rfl) (by kernel_rfl) ?_ ?_
   ·exact
     Obls.p (fun R' w' hw hs hd => of_move ((hs 8 rfl).trans h8)) <|
     Obls.p (fun R' w' hw hs hd => by have a0 : R' 39 = .int .i64 x18 := hd.g 0 rfl; exact of_lss a0 rfl) <|
     Obls.nil
   intro R w hw hs hF'
   replace h0 := (hs 0 rfl).trans h0
   replace h3 := (hs 3 rfl).trans h3
   replace h4 := (hs 4 rfl).trans h4
   replace h5 := (hs 5 rfl).trans h5
   replace h7 := (hs 7 rfl).trans h7
   replace h8 := (hs 8 rfl).trans h8
   have h40 : R 40 = .bool (decide (x18 < (0 : Int))) := hF' 1 _ _ rfl rfl rfl
   replace f_u4 := f_u4.fr hw
   replace f_v0 := f_v0.fr hw
   replace hO := hO.fr hw
   replace hA := hA.fr hw.size
   replace hF := hF.trans hw
   clear hs hF' hw
   refine seqR_nil ?_
   refine HT.cond (decide (x18 < (0 : Int))) h40 (fun c20 => ?_) (fun c20 => ?_)
   ·have hr := cnd_t c20 hr
    refine HT.seq ?_
    refine HT.text (l := ⟨_, true, .raw (.bool false)⟩ :: []) (tl := []) (by kernel_rfl) (by kernel_rfl) (by kernel_rfl) ?_ ?_
    ·exact
      Obls.p (fun R' w' hw hs hd => of_assign rfl) <|
      Obls.nil
    intro R w hw hs hF'
    have h2 : R 2 = .bool false := hF' 0 _ _ rfl rfl rfl
    replace hO := hO.fr hw
    replace hO : IniOK [] A w := hO.sub [] trivial
    replace hA := hA.fr hw.size
    replace hF := hF.trans hw
    clear hs hF' hw
    refine seqR_nil ?_
    refine HT.ret ?_
    obtain rfl := Option.some.inj hr
    exact ⟨.inr rfl, [R 2], ⟨rfl, trivial⟩, h2, hF⟩
   ·have hr := cnd_f c20 hr
    refine HT.skip ?_
    refine HT.seq ?_
    refine HT.seq ?_
    refine HT.text (l := ⟨_, true, .raw (.int .i64 x18)⟩ :: ⟨_, true, .raw (.int .i64 x14.1)⟩ :: ⟨_, true, .raw (.bool (x18 != x14.1))⟩ :: []) (tl := []) (by kernel_rfl) (by kernel_rfl) (by kernel_rfl) ?_ ?_
    ·exact
      Obls.p (fun R' w' hw hs hd => of_move ((hs 8 rfl).trans h8)) <|
      Obls.p (fun R' w' hw hs hd => of_move ((hs 7 rfl).trans h7)) <|
      Obls.p (fun R' w' hw hs hd => by have a0 : R' 41 = .int .i64 x18 := hd.g 0 rfl; have a1 : R' 42 = .int .i64 x14.1 := hd.g 1 rfl; exact of_neq a0 a1) <|
      Obls.nil
    intro R w hw hs hF'
    replace h0 := (hs 0 rfl).trans h0
    replace h3 := (hs 3 rfl).trans h3
    replace h4 := (hs 4 rfl).trans h4
    replace h5 := (hs 5 rfl).trans h5
    replace h7 := (hs 7 rfl).trans h7
    have h43 : R 43 = .bool (x18 != x14.1) := hF' 2 _ _ rfl rfl rfl
    replace f_u4 := f_u4.fr hw
    replace f_v0 := f_v0.fr hw
    replace hO := hO.fr hw
    replace hA := hA.fr hw.size
    replace hF := hF.trans hw
    clear hs hF' hw
    refine seqR_nil ?_
    refine HT.cond (x18 != x14.1) h43 (fun c21 => ?_) (fun c21 => ?_)
    ·have hr := cnd_t c21 hr
     refine HT.seq ?_
     refine HT.text (l := ⟨_, true, .raw (.bool false)⟩ :: []) (tl := []) (by kernel_rfl) (by kernel_rfl) (by kernel_rfl) ?_ ?_
     ·exact
       Obls.p (fun R' w' hw hs hd => of_assign rfl) <|
       Obls.nil
     intro R w hw hs hF'
     have h2 : R 2 = .bool false := hF' 0 _ _ rfl rfl rfl
     replace hO := hO.fr hw
     replace hO : IniOK [] A w := hO.sub [] trivial
     replace hA := hA.fr hw.size
     replace hF := hF.trans hw
     clear hs hF' hw
     refine seqR_nil ?_
     refine HT.ret ?_
     obtain rfl := Option.some.inj hr
     exact ⟨.inr rfl, [R 2], ⟨rfl, trivial⟩, h2, hF⟩
    ·have hr := cnd_f c21 hr
     refine HT.skip ?_
     refine HT.seq ?_
     obtain ⟨x22, q23, hr⟩ := cl_some hr
     refine HT.text (l := ⟨_, true, .raw v0⟩ :: ⟨_, true, .tup2 (.rep (eSl (eInt .i64)) A x22.1) (.raw (.bool x22.2))⟩ :: ⟨_, true, .tup2 (.rep (eSl (eInt .i64)) A x22.1) (.raw (.bool x22.2))⟩ :: ⟨_, true, .rep (eSl (eInt .i64)) A x22.1⟩ :: ⟨_, true, .raw (.bool x22.2)⟩ :: ⟨_, true, .rep (eSl (eInt .i64)) A x22.1⟩ :: ⟨_, true, .raw (.bool x22.2)⟩ :: []) (tl := []) (by kernel_rfl) (by kernel_rfl) (by kernel_rfl) ?_ ?_
     ·exact
       Obls.p (fun R' w' hw hs hd => of_move ((hs 0 rfl).trans h0)) <|
       Obls.p (fun R' w' hw hs hd => by have a0 : R' 45 = v0 := hd.g 0 rfl; have ra0 := (f_v0.fr hw).eq a0; exact of_call Tryd.call6 (M_impl_ParseFeatures_okR (q23 rfl) (hA.fr hw.size) (hG0.fr (hF.trans hw)) ra0)) <|
       Obls.p (fun R' w' hw hs hd => by have a0 : Fact.ok (.tup2 (.rep (eSl (eInt .i64)) A x22.1) (.raw (.bool x22.2))) (R' 46) w' := hd.g 0 rfl; exact of_move a0) <|
       Obls.p (fun R' w' hw hs hd => by have a0 : Fact.ok (.tup2 (.rep (eSl (eInt .i64)) A x22.1) (.raw (.bool x22.2))) (R' 44) w' := hd.g 0 rfl; exact of_extract2_0 a0) <|
       Obls.p (fun R' w' hw hs hd => by have a0 : Fact.ok (.tup2 (.rep (eSl (eInt .i64)) A x22.1) (.raw (.bool x22.2))) (R' 44) w' := hd.g 0 rfl; exact of_extract2_1 a0) <|
       Obls.p (fun R' w' hw hs hd => by have a0 : Rep (eSl (eInt .i64)) A w' (R' 47) x22.1 := hd.g 0 rfl; exact of_assign a0) <|
       Obls.p (fun R' w' hw hs hd => by have a0 : R' 48 = .bool x22.2 := hd.g 0 rfl; exact of_assign a0) <|
       Obls.nil
     intro R w hw hs hF'
     replace h3 := (hs 3 rfl).trans h3
     replace h4 := (hs 4 rfl).trans h4
     replace h5 := (hs 5 rfl).trans h5
     replace h7 := (hs 7 rfl).trans h7
     obtain ⟨u24, h9, f_u24⟩ : ∃ u, R 9 = u ∧ Rep (eSl (eInt .i64)) A w u x22.1 := ⟨_, rfl, hF' 5 _ _ rfl rfl rfl⟩
     have h10 : R 10 = .bool x22.2 := hF' 6 _ _ rfl rfl rfl
     replace f_u4 := f_u4.fr hw
     replace hO := hO.fr hw
     replace hA := hA.fr hw.size
     replace hF := hF.trans hw
     clear hs hF' hw
     refine seqR_nil ?_
     refine HT.seq ?_
     refine HT.seq ?_
     obtain ⟨x25, q26, hr⟩ := cl_some hr
     obtain ⟨x27, q28, hr⟩ := bd_some hr
     refine HT.text (l := ⟨_, true, .raw u24⟩ :: ⟨_, true, .raw u4⟩ :: ⟨_, true, .raw (.bool x25)⟩ :: ⟨_, true, .raw (.bool (!x25))⟩ :: ⟨_, true, .raw (.bool (!x25))⟩ :: ⟨_, (true && ((!x25) == false)), .raw (.bool x22.2)⟩ :: ⟨_, (true && ((!x25) == false)), .raw (.bool x2.2)⟩ :: ⟨_, (true && ((!x25) == false)), .raw (.bool (x22.2 != x2.2))⟩ :: ⟨_, true, .raw (.bool x27)⟩ :: []) (tl := []) (by kernel_rfl) (by kernel_rfl) (by kernel_rfl) ?_ ?_
     ·exact
       Obls.p (fun R' w' hw hs hd => of_move ((hs 9 rfl).trans h9)) <|
       Obls.p (fun R' w' hw hs hd => of_move ((hs 3 rfl).trans h3)) <|
       Obls.p (fun R' w' hw hs hd => by have a0 : R' 49 = u24 := hd.g 0 rfl; have ra0 := (f_u24.fr hw).eq a0; have a1 : R' 50 = u4 := hd.g 1 rfl; have ra1 := (f_u4.fr hw).eq a1; exact of_call Tryd.call7 (M_laws_eqIntS_ok (q26 rfl) (hA.fr hw.size) ra0 ra1)) <|
       Obls.p (fun R' w' hw hs hd => by have a0 : R' 51 = .bool x25 := hd.g 0 rfl; exact of_not a0) <|
       Obls.p (fun R' w' hw hs hd => by have a0 : R' 52 = .bool (!x25) := hd.g 0 rfl; exact of_move a0) <|
       Obls.cons (Obl.grd 4 false _ _ _ rfl rfl rfl rfl rfl (by kernel_rfl) fun hg R' w' hw hs hd => by have a0 : R' 10 = .bool x22.2 := (hs 10 rfl).trans h10; exact of_move a0) <|
       Obls.cons (Obl.grd 4 false _ _ _ rfl rfl rfl rfl rfl (by kernel_rfl) fun hg R' w' hw hs hd => by have a0 : R' 4 = .bool x2.2 := (hs 4 rfl).trans h4; exact of_move a0) <|
       Obls.cons (Obl.grd 4 false _ _ _ rfl rfl rfl rfl rfl (by kernel_rfl) fun hg R' w' hw hs hd => by have a0 : R' 54 = .bool x22.2 := hd 0 _ _ _ rfl rfl rfl rfl hg; have a1 : R' 55 = .bool x2.2 := hd 1 _ _ _ rfl rfl rfl rfl hg; exact of_bneq Tryd.underlying4 a0 a1) <|
       Obls.p (fun R' w' hw hs hd => by have a0 : R' 53 = .bool (!x25) := hd.g 0 rfl; exact of_pick (!x25) a0 (fun hc => by show _ = Value.bool x27; rw [q28, hc]; exact rfl) (fun hc => by have a2 : R' 56 = .bool (x22.2 != x2.2) := hd 1 _ _ _ rfl rfl rfl rfl (g_and rfl (beq_of hc)); show _ = Value.bool x27; rw [q28, hc]; exact a2)) <|
       Obls.nil
     intro R w hw hs hF'
     replace h5 := (hs 5 rfl).trans h5
     replace h7 := (hs 7 rfl).trans h7
     have h57 : R 57 = .bool x27 := hF' 8 _ _ rfl rfl rfl
     replace hO := hO.fr hw
     replace hA := hA.fr hw.size
     replace hF := hF.trans hw
     clear hs hF' hw
     refine seqR_nil ?_
     refine HT.cond x27 h57 (fun c29 => ?_) (fun c29 => ?_)
     ·have hr := cnd_t c29 hr
      refine HT.seq ?_
      refine HT.text (l := ⟨_, true, .raw (.bool false)⟩ :: []) (tl := []) (by kernel_rfl) (by kernel_rfl) (by kernel_rfl) ?_ ?_
      ·exact
        Obls.p (fun R' w' hw hs hd => of_assign rfl) <|
        Obls.nil
      intro R w hw hs hF'
      have h2 : R 2 = .bool false := hF' 0 _ _ rfl rfl rfl
      replace hO := hO.fr hw
      replace hO : IniOK [] A w := hO.sub [] trivial
      replace hA := hA.fr hw.size
      replace hF := hF.trans hw
      clear hs hF' hw
      refine seqR_nil ?_
      refine HT.ret ?_
      obtain rfl := Option.some.inj hr
      exact ⟨.inr rfl, [R 2], ⟨rfl, trivial⟩, h2, hF⟩
     ·have hr := cnd_f c29 hr
      refine HT.skip ?_
      refine HT.seq ?_
      refine HT.text (l := ⟨_, true, .raw (.int .i64 (1 : Int))⟩ :: []) (tl := []) (by kernel_rfl) (by kernel_rfl) (by kernel_rfl) ?_ ?_
      ·exact
        Obls.p (fun R' w' hw hs hd => of_assign rfl) <|
        Obls.nil
      intro R w hw hs hF'
      replace h5 := (hs 5 rfl).trans h5
      replace h7 := (hs 7 rfl).trans h7
      have h8 : R 8 = .int .i64 (1 : Int) := hF' 0 _ _ rfl rfl rfl
      replace hO := hO.fr hw
      replace hA := hA.fr hw.size
      replace hF := hF.trans hw
      clear hs hF' hw
      refine seqR_nil ?_
      refine HT.seq ?_
      obtain ⟨x30, q31, hr⟩ := cl_some hr
      refine HT.text (l := ⟨_, true, .raw u7⟩ :: ⟨_, true, .raw (.int .i64 (1 : Int))⟩ :: ⟨_, true, .raw (.int .i64 x30)⟩ :: ⟨_, true, .raw (.int .i64 x30)⟩ :: []) (tl := []) (by kernel_rfl) (by kernel_rfl) (by kernel_rfl) ?_ ?_
      ·exact
        Obls.p (fun R' w' hw hs hd => of_move ((hs 5 rfl).trans h5)) <|
        Obls.p (fun R' w' hw hs hd => of_move ((hs 8 rfl).trans h8)) <|
        Obls.p (fun R' w' hw hs hd => by have a0 : R' 58 = u7 := hd.g 0 rfl; have ra0 := (vec_rep ((hO.fr hw).ok 0 _ rfl).1 hAA hA0).eq a0; have a1 : R' 59 = .int .i64 (1 : Int) := hd.g 1 rfl; exact of_call Tryd.call9 (M_laws_heldIntS_ok (q31 rfl) (hA00.fr ((Nat.le_trans hF.size hw.size))) ra0 a1)) <|
        Obls.p (fun R' w' hw hs hd => by have a0 : R' 60 = .int .i64 x30 := hd.g 0 rfl; exact of_assign a0) <|
        Obls.nil
      intro R w hw hs hF'
      replace h7 := (hs 7 rfl).trans h7
      have h8 : R 8 = .int .i64 x30 := hF' 3 _ _ rfl rfl rfl
      replace hO := hO.fr hw
      replace hO : IniOK [] A w := hO.sub [] trivial
      replace hA := hA.fr hw.size
      replace hF := hF.trans hw
      clear hs hF' hw
      refine seqR_nil ?_
      refine HT.seq ?_
      refine HT.seq ?_
      refine HT.text (l := ⟨_, true, .raw (.int .i64 x30)⟩ :: ⟨_, true, .raw (.bool (decide (x30 < (0 : Int))))⟩ :: []) (tl := []) (by kernel_rfl) (by kernel_rfl) (by kernel_rfl) ?_ ?_
      ·exact
        Obls.p (fun R' w' hw hs hd => of_move ((hs 8 rfl).trans h8)) <|
        Obls.p (fun R' w' hw hs hd => by have a0 : R' 61 = .int .i64 x30 := hd.g 0 rfl; exact of_lss a0 rfl) <|
        Obls.nil
      intro R w hw hs hF'
      replace h7 := (hs 7 rfl).trans h7
      replace h8 := (hs 8 rfl).trans h8
      have h62 : R 62 = .bool (decide (x30 < (0 : Int))) := hF' 1 _ _ rfl rfl rfl
      replace hO := hO.fr hw
      replace hA := hA.fr hw.size
      replace hF := hF.trans hw
      clear hs hF' hw
      refine seqR_nil ?_
      refine HT.cond (decide (x30 < (0 : Int))) h62 (fun c32 => ?_) (fun c32 => ?_)
      ·have hr := cnd_t c32 hr
       refine HT.seq ?_
       refine HT.text (l := ⟨_, true, .raw (.bool false)⟩ :: []) (tl := []) (by kernel_rfl) (by kernel_rfl) (by kernel_rfl) ?_ ?_
       ·exact
         Obls.p (fun R' w' hw hs hd => of_assign rfl) <|
         Obls.nil
       intro R w hw hs hF'
       have h2 : R 2 = .bool false := hF' 0 _ _ rfl rfl rfl
       replace hO := hO.fr hw
       replace hA := hA.fr hw.size
       replace hF := hF.trans hw
       clear hs hF' hw
       refine seqR_nil ?_
       refine HT.ret ?_
       obtain rfl := Option.some.inj hr
       exact ⟨.inr rfl, [R 2], ⟨rfl, trivial⟩, h2, hF⟩
      ·have hr := cnd_f c32 hr
       refine HT.skip ?_
       refine HT.seq ?_
       refine HT.seq ?_
       refine HT.text (l := ⟨_, true, .raw (.int .i64 x30)⟩ :: ⟨_, true, .raw (.int .i64 x14.1)⟩ :: ⟨_, true, .raw (.bool (x30 != x14.1))⟩ :: []) (tl := []) (by kernel_rfl) (by kernel_rfl) (by kernel_rfl) ?_ ?_
       ·exact
         Obls.p (fun R' w' hw hs hd => of_move ((hs 8 rfl).trans h8)) <|
         Obls.p (fun R' w' hw hs hd => of_move ((hs 7 rfl).trans h7)) <|
         Obls.p (fun R' w' hw hs hd => by have a0 : R' 63 = .int .i64 x30 := hd.g 0 rfl; have a1 : R' 64 = .int .i64 x14.1 := hd.g 1 rfl; exact of_neq a0 a1) <|
         Obls.nil
       intro R w hw hs hF'
       have h65 : R 65 = .bool (x30 != x14.1) := hF' 2 _ _ rfl rfl rfl
       replace hO := hO.fr hw
       replace hA := hA.fr hw.size
       replace hF := hF.trans hw
       clear hs hF' hw
       refine seqR_nil ?_
       refine HT.cond (x30 != x14.1) h65 (fun c33 => ?_) (fun c33 => ?_)
       ·have hr := cnd_t c33 hr
        refine HT.seq ?_
        refine HT.text (l := ⟨_, true, .raw (.bool false)⟩ :: []) (tl := []) (by kernel_rfl) (by kernel_rfl) (by kernel_rfl) ?_ ?_
        ·exact
          Obls.p (fun R' w' hw hs hd => of_assign rfl) <|
          Obls.nil
        intro R w hw hs hF'
        have h2 : R 2 = .bool false := hF' 0 _ _ rfl rfl rfl
        replace hO := hO.fr hw
        replace hA := hA.fr hw.size
        replace hF := hF.trans hw
        clear hs hF' hw
        refine seqR_nil ?_
        refine HT.ret ?_
        obtain rfl := Option.some.inj hr
        exact ⟨.inr rfl, [R 2], ⟨rfl, trivial⟩, h2, hF⟩
       ·have hr := cnd_f c33 hr
        refine HT.skip ?_
        refine HT.seq ?_
        refine HT.text (l := ⟨_, true, .raw (.bool true)⟩ :: []) (tl := []) (by kernel_rfl) (by kernel_rfl) (by kernel_rfl) ?_ ?_
        ·exact
          Obls.p (fun R' w' hw hs hd => of_assign rfl) <|
          Obls.nil
        intro R w hw hs hF'
        have h2 : R 2 = .bool true := hF' 0 _ _ rfl rfl rfl
        replace hO := hO.fr hw
        replace hA := hA.fr hw.size
        replace hF := hF.trans hw
        clear hs hF' hw
        refine seqR_nil ?_
        refine HT.ret ?_
        obtain rfl := Option.some.inj hr
        exact ⟨.inr rfl, [R 2], ⟨rfl, trivial⟩, h2, hF⟩
end Go.Proofs.YtcodfkieaoomnaaDoor
