/- Printed by dec.py: plain functions and the proofs that the code computes them. No statement of the seat is proved here. -/
import Derived.Test.YtofiipblinonoaaSos
namespace Go.Proofs.Ytofiipblinonoaa
open Go.RowKit
set_option linter.unusedVariables false
set_option maxRecDepth 100000
set_option maxHeartbeats 4000000
def M_spec_l1In (fu : Nat) (p0 : Int) (p1 : Int) (p2 : Int) : Option Bool :=
 bd ((decide (p1 ≤ p0)) && (decide (p0 ≤ p2))) fun x1 =>
 some x1
theorem M_spec_l1In_ok {fu : Nat} {A : Av} {p0 : Int} {p1 : Int} {p2 : Int} {r : Bool} (hr : M_spec_l1In fu p0 p1 p2 = some r) {w : World} {v0 : Value} {v1 : Value} {v2 : Value} (hA : AvOK A w) (h0 : v0 = .int .i64 p0) (h1 : v1 = .int .i64 p1) (h2 : v2 = .int .i64 p2) :
  Calls Try.prog 70 #[v0, v1, v2] w fun e w' => ∃ v, e = .returned v ∧ (v = .bool r ∧ Fr w w') := by
 unfold M_spec_l1In at hr
 obtain ⟨w0, hw0⟩ : ∃ w0, w0 = w := ⟨_, rfl⟩
 have hF : Fr w0 w := hw0 ▸ Fr.refl _
 rw [show Fr w = Fr w0 from hw0 ▸ rfl]
 clear hw0
 refine calls_of_HT2 [.tmp 6] Try.func70 Try.ntmps70 (by decide) rfl rfl (Nat.le_of_ble_eq_true rfl) ?_
 intro R hR
 replace h0 : R 0 = .int .i64 p0 := (hR 0 _ rfl).trans h0
 replace h1 : R 1 = .int .i64 p1 := (hR 1 _ rfl).trans h1
 replace h2 : R 2 = .int .i64 p2 := (hR 2 _ rfl).trans h2
 clear hR
 refine HT.seq ?_
 refine HT.text (l := ⟨_, true, .raw (.bool false)⟩ :: []) (tl := []) (by kernel_rfl) (by kernel_rfl) (by kernel_rfl) ?_ ?_
 ·exact
   Obls.p (fun R' w' hw hs hd => of_assign rfl) <|
   Obls.nil
 intro R w hw hs hF'
 replace h0 := (hs 0 rfl).trans h0
 replace h1 := (hs 1 rfl).trans h1
 replace h2 := (hs 2 rfl).trans h2
 replace hA := hA.fr hw.size
 replace hF := hF.trans hw
 clear hs hF' hw
 refine seqR_nil ?_
 refine HT.seq ?_
 obtain ⟨x1, q2, hr⟩ := bd_some hr
 refine HT.text (l := ⟨_, true, .raw (.int .i64 p0)⟩ :: ⟨_, true, .raw (.int .i64 p1)⟩ :: ⟨_, true, .raw (.bool (decide (p1 ≤ p0)))⟩ :: ⟨_, true, .raw (.bool (decide (p1 ≤ p0)))⟩ :: ⟨_, (true && ((decide (p1 ≤ p0)) == true)), .raw (.int .i64 p0)⟩ :: ⟨_, (true && ((decide (p1 ≤ p0)) == true)), .raw (.int .i64 p2)⟩ :: ⟨_, (true && ((decide (p1 ≤ p0)) == true)), .raw (.bool (decide (p0 ≤ p2)))⟩ :: ⟨_, true, .raw (.bool x1)⟩ :: ⟨_, true, .raw (.bool x1)⟩ :: []) (tl := []) (by kernel_rfl) (by kernel_rfl) (by kernel_rfl) ?_ ?_
 ·exact
   Obls.p (fun R' w' hw hs hd => of_move ((hs 0 rfl).trans h0)) <|
   Obls.p (fun R' w' hw hs hd => of_move ((hs 1 rfl).trans h1)) <|
   Obls.p (fun R' w' hw hs hd => by have a0 : R' 7 = .int .i64 p0 := hd.g 0 rfl; have a1 : R' 8 = .int .i64 p1 := hd.g 1 rfl; exact of_geq a0 a1) <|
   Obls.p (fun R' w' hw hs hd => by have a0 : R' 9 = .bool (decide (p1 ≤ p0)) := hd.g 0 rfl; exact of_move a0) <|
   Obls.cons (Obl.grd 3 true _ _ _ rfl rfl rfl rfl rfl (by kernel_rfl) fun hg R' w' hw hs hd => by have a0 : R' 0 = .int .i64 p0 := (hs 0 rfl).trans h0; exact of_move a0) <|
   Obls.cons (Obl.grd 3 true _ _ _ rfl rfl rfl rfl rfl (by kernel_rfl) fun hg R' w' hw hs hd => by have a0 : R' 2 = .int .i64 p2 := (hs 2 rfl).trans h2; exact of_move a0) <|
   Obls.cons (Obl.grd 3 true _ _ _ rfl rfl rfl rfl rfl (by kernel_rfl) fun hg R' w' hw hs hd => by have a0 : R' 11 = .int .i64 p0 := hd 0 _ _ _ rfl rfl rfl rfl hg; have a1 : R' 12 = .int .i64 p2 := hd 1 _ _ _ rfl rfl rfl rfl hg; exact of_leq a0 a1) <|
   Obls.p (fun R' w' hw hs hd => by have a0 : R' 10 = .bool (decide (p1 ≤ p0)) := hd.g 0 rfl; exact of_pick (decide (p1 ≤ p0)) a0 (fun hc => by have a1 : R' 13 = .bool (decide (p0 ≤ p2)) := hd 1 _ _ _ rfl rfl rfl rfl (g_and rfl (beq_of hc)); show _ = Value.bool x1; rw [q2, hc]; exact a1) (fun hc => by show _ = Value.bool x1; rw [q2, hc]; exact rfl)) <|
   Obls.p (fun R' w' hw hs hd => by have a0 : R' 14 = .bool x1 := hd.g 0 rfl; exact of_assign a0) <|
   Obls.nil
 intro R w hw hs hF'
 have h6 : R 6 = .bool x1 := hF' 8 _ _ rfl rfl rfl
 replace hA := hA.fr hw.size
 replace hF := hF.trans hw
 clear hs hF' hw
 refine seqR_nil ?_
 refine HT.ret ?_
 obtain rfl := Option.some.inj hr
 exact ⟨.inr rfl, [R 6], ⟨rfl, trivial⟩, h6, hF⟩
def M_spec_l10Good (fu : Nat) (p0 : Int) (p1 : Int) (p2 : Int) (p3 : Int) : Option Bool :=
 cl true (M_spec_l1In fu p0 (0 : Int) (40 : Int)) fun x1 =>
 cl (true && (x1 == true)) (M_spec_l1In fu p1 (0 : Int) (40 : Int)) fun x3 =>
 bd (x1 && x3) fun x5 =>
 cl (true && (x5 == true)) (M_spec_l1In fu p2 (1 : Int) (3 : Int)) fun x7 =>
 bd (x5 && x7) fun x9 =>
 cl (true && (x9 == true)) (M_spec_l1In fu p3 (0 : Int) (40 : Int)) fun x11 =>
 bd (x9 && x11) fun x13 =>
 some x13
theorem M_spec_l10Good_ok {fu : Nat} {A : Av} {p0 : Int} {p1 : Int} {p2 : Int} {p3 : Int} {r : Bool} (hr : M_spec_l10Good fu p0 p1 p2 p3 = some r) {w : World} {v0 : Value} {v1 : Value} {v2 : Value} {v3 : Value} (hA : AvOK A w) (h0 : v0 = .int .i64 p0) (h1 : v1 = .int .i64 p1) (h2 : v2 = .int .i64 p2) (h3 : v3 = .int .i64 p3) :
  Calls Try.prog 55 #[v0, v1, v2, v3] w fun e w' => ∃ v, e = .returned v ∧ (v = .bool r ∧ Fr w w') := by
 unfold M_spec_l10Good at hr
 obtain ⟨w0, hw0⟩ : ∃ w0, w0 = w := ⟨_, rfl⟩
 have hF : Fr w0 w := hw0 ▸ Fr.refl _
 rw [show Fr w = Fr w0 from hw0 ▸ rfl]
 clear hw0
 refine calls_of_HT2 [.tmp 8] Try.func55 Try.ntmps55 (by decide) rfl rfl (Nat.le_of_ble_eq_true rfl) ?_
 intro R hR
 replace h0 : R 0 = .int .i64 p0 := (hR 0 _ rfl).trans h0
 replace h1 : R 1 = .int .i64 p1 := (hR 1 _ rfl).trans h1
 replace h2 : R 2 = .int .i64 p2 := (hR 2 _ rfl).trans h2
 replace h3 : R 3 = .int .i64 p3 := (hR 3 _ rfl).trans h3
 clear hR
 refine HT.seq ?_
 refine HT.text (l := ⟨_, true, .raw (.bool false)⟩ :: []) (tl := []) (by kernel_rfl) (by kernel_rfl) (by kernel_rfl) ?_ ?_
 ·exact
   Obls.p (fun R' w' hw hs hd => of_assign rfl) <|
   Obls.nil
 intro R w hw hs hF'
 replace h0 := (hs 0 rfl).trans h0
 replace h1 := (hs 1 rfl).trans h1
 replace h2 := (hs 2 rfl).trans h2
 replace h3 := (hs 3 rfl).trans h3
 replace hA := hA.fr hw.size
 replace hF := hF.trans hw
 clear hs hF' hw
 refine seqR_nil ?_
 refine HT.seq ?_
 obtain ⟨x1, q2, hr⟩ := cl_some hr
 obtain ⟨x3, q4, hr⟩ := cl_some hr
 obtain ⟨x5, q6, hr⟩ := bd_some hr
 obtain ⟨x7, q8, hr⟩ := cl_some hr
 obtain ⟨x9, q10, hr⟩ := bd_some hr
 obtain ⟨x11, q12, hr⟩ := cl_some hr
 obtain ⟨x13, q14, hr⟩ := bd_some hr
 refine HT.text (l := ⟨_, true, .raw (.int .i64 p0)⟩ :: ⟨_, true, .raw (.bool x1)⟩ :: ⟨_, true, .raw (.bool x1)⟩ :: ⟨_, (true && (x1 == true)), .raw (.int .i64 p1)⟩ :: ⟨_, (true && (x1 == true)), .raw (.bool x3)⟩ :: ⟨_, true, .raw (.bool x5)⟩ :: ⟨_, true, .raw (.bool x5)⟩ :: ⟨_, (true && (x5 == true)), .raw (.int .i64 p2)⟩ :: ⟨_, (true && (x5 == true)), .raw (.bool x7)⟩ :: ⟨_, true, .raw (.bool x9)⟩ :: ⟨_, true, .raw (.bool x9)⟩ :: ⟨_, (true && (x9 == true)), .raw (.int .i64 p3)⟩ :: ⟨_, (true && (x9 == true)), .raw (.bool x11)⟩ :: ⟨_, true, .raw (.bool x13)⟩ :: ⟨_, true, .raw (.bool x13)⟩ :: []) (tl := []) (by kernel_rfl) (by kernel_rfl) (by kernel_rfl) ?_ ?_
 ·exact
   Obls.p (fun R' w' hw hs hd => of_move ((hs 0 rfl).trans h0)) <|
   Obls.p (fun R' w' hw hs hd => by have a0 : R' 9 = .int .i64 p0 := hd.g 0 rfl; exact of_call Try.call70 (M_spec_l1In_ok (q2 rfl) (hA.fr hw.size) a0 rfl rfl)) <|
   Obls.p (fun R' w' hw hs hd => by have a0 : R' 10 = .bool x1 := hd.g 0 rfl; exact of_move a0) <|
   Obls.cons (Obl.grd 2 true _ _ _ rfl rfl rfl rfl rfl (by kernel_rfl) fun hg R' w' hw hs hd => by have a0 : R' 1 = .int .i64 p1 := (hs 1 rfl).trans h1; exact of_move a0) <|
   Obls.cons (Obl.grd 2 true _ _ _ rfl rfl rfl rfl rfl (by kernel_rfl) fun hg R' w' hw hs hd => by have a0 : R' 12 = .int .i64 p1 := hd 0 _ _ _ rfl rfl rfl rfl hg; exact of_call Try.call70 (M_spec_l1In_ok (q4 hg) (hA.fr hw.size) a0 rfl rfl)) <|
   Obls.p (fun R' w' hw hs hd => by have a0 : R' 11 = .bool x1 := hd.g 0 rfl; exact of_pick x1 a0 (fun hc => by have a1 : R' 13 = .bool x3 := hd 1 _ _ _ rfl rfl rfl rfl (g_and rfl (beq_of hc)); show _ = Value.bool x5; rw [q6, hc]; exact a1) (fun hc => by show _ = Value.bool x5; rw [q6, hc]; exact rfl)) <|
   Obls.p (fun R' w' hw hs hd => by have a0 : R' 14 = .bool x5 := hd.g 0 rfl; exact of_move a0) <|
   Obls.cons (Obl.grd 6 true _ _ _ rfl rfl rfl rfl rfl (by kernel_rfl) fun hg R' w' hw hs hd => by have a0 : R' 2 = .int .i64 p2 := (hs 2 rfl).trans h2; exact of_move a0) <|
   Obls.cons (Obl.grd 6 true _ _ _ rfl rfl rfl rfl rfl (by kernel_rfl) fun hg R' w' hw hs hd => by have a0 : R' 16 = .int .i64 p2 := hd 0 _ _ _ rfl rfl rfl rfl hg; exact of_call Try.call70 (M_spec_l1In_ok (q8 hg) (hA.fr hw.size) a0 rfl rfl)) <|
   Obls.p (fun R' w' hw hs hd => by have a0 : R' 15 = .bool x5 := hd.g 0 rfl; exact of_pick x5 a0 (fun hc => by have a1 : R' 17 = .bool x7 := hd 1 _ _ _ rfl rfl rfl rfl (g_and rfl (beq_of hc)); show _ = Value.bool x9; rw [q10, hc]; exact a1) (fun hc => by show _ = Value.bool x9; rw [q10, hc]; exact rfl)) <|
   Obls.p (fun R' w' hw hs hd => by have a0 : R' 18 = .bool x9 := hd.g 0 rfl; exact of_move a0) <|
   Obls.cons (Obl.grd 10 true _ _ _ rfl rfl rfl rfl rfl (by kernel_rfl) fun hg R' w' hw hs hd => by have a0 : R' 3 = .int .i64 p3 := (hs 3 rfl).trans h3; exact of_move a0) <|
   Obls.cons (Obl.grd 10 true _ _ _ rfl rfl rfl rfl rfl (by kernel_rfl) fun hg R' w' hw hs hd => by have a0 : R' 20 = .int .i64 p3 := hd 0 _ _ _ rfl rfl rfl rfl hg; exact of_call Try.call70 (M_spec_l1In_ok (q12 hg) (hA.fr hw.size) a0 rfl rfl)) <|
   Obls.p (fun R' w' hw hs hd => by have a0 : R' 19 = .bool x9 := hd.g 0 rfl; exact of_pick x9 a0 (fun hc => by have a1 : R' 21 = .bool x11 := hd 1 _ _ _ rfl rfl rfl rfl (g_and rfl (beq_of hc)); show _ = Value.bool x13; rw [q14, hc]; exact a1) (fun hc => by show _ = Value.bool x13; rw [q14, hc]; exact rfl)) <|
   Obls.p (fun R' w' hw hs hd => by have a0 : R' 22 = .bool x13 := hd.g 0 rfl; exact of_assign a0) <|
   Obls.nil
 intro R w hw hs hF'
 have h8 : R 8 = .bool x13 := hF' 14 _ _ rfl rfl rfl
 replace hA := hA.fr hw.size
 replace hF := hF.trans hw
 clear hs hF' hw
 refine seqR_nil ?_
 refine HT.ret ?_
 obtain rfl := Option.some.inj hr
 exact ⟨.inr rfl, [R 8], ⟨rfl, trivial⟩, h8, hF⟩
def M_spec_l3Put_L0 (fu : Nat) (p0 : List (List UInt8)) (p1 : List UInt8) : Nat → Int → Option Int
 | 0, _ => none
 | k + 1, y4 =>
  ck (!(true && ((decide (y4 < (p0.length : Int))) == true)) || inR y4 p0.length) <|
  bd ((decide (y4 < (p0.length : Int))) && (bLt (gtD p0 y4) p1)) fun x6 =>
  bif x6 then (
   ck (i64B (y4 + (1 : Int))) <|
   M_spec_l3Put_L0 fu p0 p1 k (y4 + (1 : Int))
  ) else (
   some y4
  )
def M_spec_l3Put (fu : Nat) (p0 : List (List UInt8)) (p1 : List UInt8) (p2 : Bool) : Option (List (List UInt8)) :=
 cl true (M_spec_l3Put_L0 fu p0 p1 fu (0 : Int)) fun s3 =>
 bd ((!p2) && (decide (s3 < (p0.length : Int)))) fun x10 =>
 ck (!(true && (x10 == true)) || inR s3 p0.length) <|
 bd (x10 && ((gtD p0 s3) == p1)) fun x13 =>
 bif x13 then (
  some p0
 ) else (
  ck (subR 0 s3 p0.length) <|
  ck (lenOK (([] : List (List UInt8)).length + (subL p0 0 s3).length)) <|
  ck (lenOK ((([] : List (List UInt8)) ++ (subL p0 0 s3)).length + ([p1] : List (List UInt8)).length)) <|
  ck (subR s3 (p0.length : Int) p0.length) <|
  ck (lenOK (((([] : List (List UInt8)) ++ (subL p0 0 s3)) ++ ([p1] : List (List UInt8))).length + (subL p0 s3 (p0.length : Int)).length)) <|
  some (((([] : List (List UInt8)) ++ (subL p0 0 s3)) ++ ([p1] : List (List UInt8))) ++ (subL p0 s3 (p0.length : Int)))
 )
theorem M_spec_l3Put_ok {fu : Nat} {A0 : Av} {p0 : List (List UInt8)} {p1 : List UInt8} {p2 : Bool} {r : List (List UInt8)} (hr : M_spec_l3Put fu p0 p1 p2 = some r) {w : World} {v0 : Value} {v1 : Value} {v2 : Value} (hA : AvOK A0 w) (h0 : Rep (eSl eStr) A0 w v0 p0) (h1 : Rep eStr A0 w v1 p1) (h2 : v2 = .bool p2) :
  Calls Try.prog 85 #[v0, v1, v2] w fun e w' => ∃ v, e = .returned v ∧ (Rep (eSl eStr) A0 w' v r ∧ Fr w w') := by
 unfold M_spec_l3Put at hr
 obtain ⟨w0, hw0⟩ : ∃ w0, w0 = w := ⟨_, rfl⟩
 have hF : Fr w0 w := hw0 ▸ Fr.refl _
 have hA0 : ∀ b o, A0 b o → b < w0.heap.size := fun b o h => hw0 ▸ hA b o h
 have hA00 : AvOK A0 w0 := hA0
 rw [show Fr w = Fr w0 from hw0 ▸ rfl]
 clear hw0
 obtain ⟨A, hAe⟩ : ∃ A, A = A0 := ⟨_, rfl⟩
 have hAA : ∀ b o, A0 b o → A b o := fun b o h => hAe ▸ h
 replace hA : AvOK A w := hAe ▸ hA
 have hO : IniOK [] A w := IniOK.nil
 refine calls_of_HT2 [.tmp 6] Try.func85 Try.ntmps85 (by decide) rfl rfl (Nat.le_of_ble_eq_true rfl) ?_
 intro R hR
 have f_v0 : Rep (eSl eStr) A w v0 p0 := hAe ▸ h0
 replace h0 : R 0 = v0 := hR 0 _ rfl
 have f_v1 : Rep eStr A w v1 p1 := hAe ▸ h1
 replace h1 : R 1 = v1 := hR 1 _ rfl
 replace h2 : R 2 = .bool p2 := (hR 2 _ rfl).trans h2
 clear hR hAe
 refine HT.seq ?_
 refine HT.text (l := ⟨_, true, .rep (eSl eStr) A ([] : List (List UInt8))⟩ :: []) (tl := []) (by kernel_rfl) (by kernel_rfl) (by kernel_rfl) ?_ ?_
 ·exact
   Obls.p (fun R' w' hw hs hd => of_assign rep_nil) <|
   Obls.nil
 intro R w hw hs hF'
 replace h0 := (hs 0 rfl).trans h0
 replace h1 := (hs 1 rfl).trans h1
 replace h2 := (hs 2 rfl).trans h2
 replace f_v0 := f_v0.fr hw
 replace f_v1 := f_v1.fr hw
 replace hO := hO.fr hw
 replace hA := hA.fr hw.size
 replace hF := hF.trans hw
 clear hs hF' hw
 refine seqR_nil ?_
 refine HT.seq ?_
 refine HT.text (l := ⟨_, true, .raw (.int .i64 (0 : Int))⟩ :: []) (tl := []) (by kernel_rfl) (by kernel_rfl) (by kernel_rfl) ?_ ?_
 ·exact
   Obls.p (fun R' w' hw hs hd => of_assign rfl) <|
   Obls.nil
 intro R w hw hs hF'
 replace h0 := (hs 0 rfl).trans h0
 replace h1 := (hs 1 rfl).trans h1
 replace h2 := (hs 2 rfl).trans h2
 have h7 : R 7 = .int .i64 (0 : Int) := hF' 0 _ _ rfl rfl rfl
 replace f_v0 := f_v0.fr hw
 replace f_v1 := f_v1.fr hw
 replace hO := hO.fr hw
 replace hA := hA.fr hw.size
 replace hF := hF.trans hw
 clear hs hF' hw
 refine seqR_nil ?_
 obtain ⟨rl1, q2, hr⟩ := cl_some hr
 replace q2 := q2 rfl
 refine HT.cut (fun R w => ∃ A : Av, ∃ (s3 : Int), rl1 = s3 ∧ AvOK A w ∧ Fr w0 w ∧ (∀ b o, A0 b o → A b o) ∧ IniOK [] A w ∧ R 0 = v0 ∧ R 1 = v1 ∧ R 2 = .bool p2 ∧ R 7 = .int .i64 s3 ∧ Rep (eSl eStr) A w v0 p0 ∧ Rep eStr A w v1 p1) ?_ ?_
 ·refine HT.block ?_
  refine HT.loop (fun k R w => ∃ A : Av, ∃ (y4 : Int), M_spec_l3Put_L0 fu p0 p1 k y4 = some rl1 ∧ AvOK A w ∧ Fr w0 w ∧ (∀ b o, A0 b o → A b o) ∧ IniOK [] A w ∧ R 0 = v0 ∧ R 1 = v1 ∧ R 2 = .bool p2 ∧ R 7 = .int .i64 y4 ∧ Rep (eSl eStr) A w v0 p0 ∧ Rep eStr A w v1 p1) fu ⟨_, _, q2, hA, hF, hAA, hO, h0, h1, h2, h7, f_v0, f_v1⟩ ?_
  have hr0 := hr; clear hr q2
  rintro k R w ⟨A, y4, hr, hA, hF, hAA, hO, h0, h1, h2, h7, f_v0, f_v1⟩
  rcases k with _ | k
  ·cases (show none = some _ from hr)
  rw [M_spec_l3Put_L0] at hr
  refine HT.seq ?_
  refine HT.seq ?_
  obtain ⟨e5, hr⟩ := ck_some hr
  obtain ⟨x6, q7, hr⟩ := bd_some hr
  refine HT.text (l := ⟨_, true, .raw (.int .i64 y4)⟩ :: ⟨_, true, .raw v0⟩ :: ⟨_, true, .raw (.int .i64 (p0.length : Int))⟩ :: ⟨_, true, .raw (.bool (decide (y4 < (p0.length : Int))))⟩ :: ⟨_, true, .raw (.bool (decide (y4 < (p0.length : Int))))⟩ :: ⟨_, (true && ((decide (y4 < (p0.length : Int))) == true)), .raw v0⟩ :: ⟨_, (true && ((decide (y4 < (p0.length : Int))) == true)), .raw (.int .i64 y4)⟩ :: ⟨_, (true && ((decide (y4 < (p0.length : Int))) == true)), .qtr eStr A (gtD p0 y4)⟩ :: ⟨_, (true && ((decide (y4 < (p0.length : Int))) == true)), .rep eStr A (gtD p0 y4)⟩ :: ⟨_, (true && ((decide (y4 < (p0.length : Int))) == true)), .raw v1⟩ :: ⟨_, (true && ((decide (y4 < (p0.length : Int))) == true)), .raw (.bool (bLt (gtD p0 y4) p1))⟩ :: ⟨_, true, .raw (.bool x6)⟩ :: []) (tl := []) (by kernel_rfl) (by kernel_rfl) (by kernel_rfl) ?_ ?_
  ·exact
    Obls.p (fun R' w' hw hs hd => of_move ((hs 7 rfl).trans h7)) <|
    Obls.p (fun R' w' hw hs hd => of_move ((hs 0 rfl).trans h0)) <|
    Obls.p (fun R' w' hw hs hd => by have a0 : R' 9 = v0 := hd.g 0 rfl; have ra0 := (f_v0.fr hw).eq a0; exact of_len_sl (aT := #[]) ra0 Try.underlying22) <|
    Obls.p (fun R' w' hw hs hd => by have a0 : R' 8 = .int .i64 y4 := hd.g 0 rfl; have a1 : R' 10 = .int .i64 (p0.length : Int) := hd.g 1 rfl; exact of_lss a0 a1) <|
    Obls.p (fun R' w' hw hs hd => by have a0 : R' 11 = .bool (decide (y4 < (p0.length : Int))) := hd.g 0 rfl; exact of_move a0) <|
    Obls.cons (Obl.grd 4 true _ _ _ rfl rfl rfl rfl rfl (by kernel_rfl) fun hg R' w' hw hs hd => by have a0 : R' 0 = v0 := (hs 0 rfl).trans h0; exact of_move a0) <|
    Obls.cons (Obl.grd 4 true _ _ _ rfl rfl rfl rfl rfl (by kernel_rfl) fun hg R' w' hw hs hd => by have a0 : R' 7 = .int .i64 y4 := (hs 7 rfl).trans h7; exact of_move a0) <|
    Obls.cons (Obl.grd 4 true _ _ _ rfl rfl rfl rfl rfl (by kernel_rfl) fun hg R' w' hw hs hd => by have a0 : R' 13 = v0 := hd 0 _ _ _ rfl rfl rfl rfl hg; have a1 : R' 14 = .int .i64 y4 := hd 1 _ _ _ rfl rfl rfl rfl hg; have ra0 := (f_v0.fr hw).eq a0; exact of_indexAddr ra0 a1 Try.underlying22 Try.sizeOf9 (gd e5 hg)) <|
    Obls.cons (Obl.grd 4 true _ _ _ rfl rfl rfl rfl rfl (by kernel_rfl) fun hg R' w' hw hs hd => by have a0 : QRep eStr A w' (R' 15) (gtD p0 y4) := hd 0 _ _ _ rfl rfl rfl rfl hg; exact (of_load a0.ptr Try.isAgg9 Try.sizeOf9)) <|
    Obls.cons (Obl.grd 4 true _ _ _ rfl rfl rfl rfl rfl (by kernel_rfl) fun hg R' w' hw hs hd => by have a0 : R' 1 = v1 := (hs 1 rfl).trans h1; exact of_move a0) <|
    Obls.cons (Obl.grd 4 true _ _ _ rfl rfl rfl rfl rfl (by kernel_rfl) fun hg R' w' hw hs hd => by have a0 : Rep eStr A w' (R' 16) (gtD p0 y4) := hd 0 _ _ _ rfl rfl rfl rfl hg; have a1 : R' 17 = v1 := hd 1 _ _ _ rfl rfl rfl rfl hg; have ra1 := (f_v1.fr hw).eq a1; exact of_slss a0 ra1) <|
    Obls.p (fun R' w' hw hs hd => by have a0 : R' 12 = .bool (decide (y4 < (p0.length : Int))) := hd.g 0 rfl; exact of_pick (decide (y4 < (p0.length : Int))) a0 (fun hc => by have a1 : R' 18 = .bool (bLt (gtD p0 y4) p1) := hd 1 _ _ _ rfl rfl rfl rfl (g_and rfl (beq_of hc)); show _ = Value.bool x6; rw [q7, hc]; exact a1) (fun hc => by show _ = Value.bool x6; rw [q7, hc]; exact rfl)) <|
    Obls.nil
  intro R w hw hs hF'
  replace h0 := (hs 0 rfl).trans h0
  replace h1 := (hs 1 rfl).trans h1
  replace h2 := (hs 2 rfl).trans h2
  replace h7 := (hs 7 rfl).trans h7
  have h19 : R 19 = .bool x6 := hF' 11 _ _ rfl rfl rfl
  replace f_v0 := f_v0.fr hw
  replace f_v1 := f_v1.fr hw
  replace hO := hO.fr hw
  replace hA := hA.fr hw.size
  replace hF := hF.trans hw
  clear hs hF' hw
  refine seqR_nil ?_
  refine HT.cond x6 h19 (fun c8 => ?_) (fun c8 => ?_)
  ·have hr := cnd_t c8 hr
   refine HT.skip ?_
   refine HT.block ?_
   obtain ⟨e9, hr⟩ := ck_some hr
   refine HT.text (l := ⟨_, true, .raw (.int .i64 y4)⟩ :: ⟨_, true, .raw (.int .i64 (y4 + (1 : Int)))⟩ :: ⟨_, true, .raw (.int .i64 (y4 + (1 : Int)))⟩ :: []) (tl := []) (by kernel_rfl) (by kernel_rfl) (by kernel_rfl) ?_ ?_
   ·exact
     Obls.p (fun R' w' hw hs hd => of_move ((hs 7 rfl).trans h7)) <|
     Obls.p (fun R' w' hw hs hd => by have a0 : R' 20 = .int .i64 y4 := hd.g 0 rfl; exact of_add a0 rfl e9) <|
     Obls.p (fun R' w' hw hs hd => by have a0 : R' 21 = .int .i64 (y4 + (1 : Int)) := hd.g 0 rfl; exact of_assign a0) <|
     Obls.nil
   intro R w hw hs hF'
   replace h0 := (hs 0 rfl).trans h0
   replace h1 := (hs 1 rfl).trans h1
   replace h2 := (hs 2 rfl).trans h2
   have h7 : R 7 = .int .i64 (y4 + (1 : Int)) := hF' 2 _ _ rfl rfl rfl
   replace f_v0 := f_v0.fr hw
   replace f_v1 := f_v1.fr hw
   replace hO := hO.fr hw
   replace hA := hA.fr hw.size
   replace hF := hF.trans hw
   clear hs hF' hw
   refine seqR_nil ?_
   exact Exists.intro k (And.intro (Nat.lt_succ_self k) ⟨_, _, hr, hA, hF, hAA, hO, h0, h1, h2, h7, f_v0, f_v1⟩)
  ·have hr := cnd_f c8 hr
   refine HT.exit ?_
   obtain rfl := Option.some.inj hr
   exact Exists.intro _ ⟨_, rfl, hA, hF, hAA, hO, h0, h1, h2, h7, f_v0, f_v1⟩
 rintro R w ⟨A, s3, es, hA, hF, hAA, hO, h0, h1, h2, h7, f_v0, f_v1⟩
 obtain rfl := es.symm
 refine HT.seq ?_
 refine HT.seq ?_
 obtain ⟨x10, q11, hr⟩ := bd_some hr
 obtain ⟨e12, hr⟩ := ck_some hr
 obtain ⟨x13, q14, hr⟩ := bd_some hr
 refine HT.text (l := ⟨_, true, .raw (.bool p2)⟩ :: ⟨_, true, .raw (.bool (!p2))⟩ :: ⟨_, true, .raw (.bool (!p2))⟩ :: ⟨_, (true && ((!p2) == true)), .raw (.int .i64 s3)⟩ :: ⟨_, (true && ((!p2) == true)), .raw v0⟩ :: ⟨_, (true && ((!p2) == true)), .raw (.int .i64 (p0.length : Int))⟩ :: ⟨_, (true && ((!p2) == true)), .raw (.bool (decide (s3 < (p0.length : Int))))⟩ :: ⟨_, true, .raw (.bool x10)⟩ :: ⟨_, true, .raw (.bool x10)⟩ :: ⟨_, (true && (x10 == true)), .raw v0⟩ :: ⟨_, (true && (x10 == true)), .raw (.int .i64 s3)⟩ :: ⟨_, (true && (x10 == true)), .qtr eStr A (gtD p0 s3)⟩ :: ⟨_, (true && (x10 == true)), .rep eStr A (gtD p0 s3)⟩ :: ⟨_, (true && (x10 == true)), .raw v1⟩ :: ⟨_, (true && (x10 == true)), .raw (.bool ((gtD p0 s3) == p1))⟩ :: ⟨_, true, .raw (.bool x13)⟩ :: []) (tl := []) (by kernel_rfl) (by kernel_rfl) (by kernel_rfl) ?_ ?_
 ·exact
   Obls.p (fun R' w' hw hs hd => of_move ((hs 2 rfl).trans h2)) <|
   Obls.p (fun R' w' hw hs hd => by have a0 : R' 22 = .bool p2 := hd.g 0 rfl; exact of_not a0) <|
   Obls.p (fun R' w' hw hs hd => by have a0 : R' 23 = .bool (!p2) := hd.g 0 rfl; exact of_move a0) <|
   Obls.cons (Obl.grd 2 true _ _ _ rfl rfl rfl rfl rfl (by kernel_rfl) fun hg R' w' hw hs hd => by have a0 : R' 7 = .int .i64 s3 := (hs 7 rfl).trans h7; exact of_move a0) <|
   Obls.cons (Obl.grd 2 true _ _ _ rfl rfl rfl rfl rfl (by kernel_rfl) fun hg R' w' hw hs hd => by have a0 : R' 0 = v0 := (hs 0 rfl).trans h0; exact of_move a0) <|
   Obls.cons (Obl.grd 2 true _ _ _ rfl rfl rfl rfl rfl (by kernel_rfl) fun hg R' w' hw hs hd => by have a0 : R' 26 = v0 := hd 0 _ _ _ rfl rfl rfl rfl hg; have ra0 := (f_v0.fr hw).eq a0; exact of_len_sl (aT := #[]) ra0 Try.underlying22) <|
   Obls.cons (Obl.grd 2 true _ _ _ rfl rfl rfl rfl rfl (by kernel_rfl) fun hg R' w' hw hs hd => by have a0 : R' 25 = .int .i64 s3 := hd 0 _ _ _ rfl rfl rfl rfl hg; have a1 : R' 27 = .int .i64 (p0.length : Int) := hd 1 _ _ _ rfl rfl rfl rfl hg; exact of_lss a0 a1) <|
   Obls.p (fun R' w' hw hs hd => by have a0 : R' 24 = .bool (!p2) := hd.g 0 rfl; exact of_pick (!p2) a0 (fun hc => by have a1 : R' 28 = .bool (decide (s3 < (p0.length : Int))) := hd 1 _ _ _ rfl rfl rfl rfl (g_and rfl (beq_of hc)); show _ = Value.bool x10; rw [q11, hc]; exact a1) (fun hc => by show _ = Value.bool x10; rw [q11, hc]; exact rfl)) <|
   Obls.p (fun R' w' hw hs hd => by have a0 : R' 29 = .bool x10 := hd.g 0 rfl; exact of_move a0) <|
   Obls.cons (Obl.grd 8 true _ _ _ rfl rfl rfl rfl rfl (by kernel_rfl) fun hg R' w' hw hs hd => by have a0 : R' 0 = v0 := (hs 0 rfl).trans h0; exact of_move a0) <|
   Obls.cons (Obl.grd 8 true _ _ _ rfl rfl rfl rfl rfl (by kernel_rfl) fun hg R' w' hw hs hd => by have a0 : R' 7 = .int .i64 s3 := (hs 7 rfl).trans h7; exact of_move a0) <|
   Obls.cons (Obl.grd 8 true _ _ _ rfl rfl rfl rfl rfl (by kernel_rfl) fun hg R' w' hw hs hd => by have a0 : R' 31 = v0 := hd 0 _ _ _ rfl rfl rfl rfl hg; have a1 : R' 32 = .int .i64 s3 := hd 1 _ _ _ rfl rfl rfl rfl hg; have ra0 := (f_v0.fr hw).eq a0; exact of_indexAddr ra0 a1 Try.underlying22 Try.sizeOf9 (gd e12 hg)) <|
   Obls.cons (Obl.grd 8 true _ _ _ rfl rfl rfl rfl rfl (by kernel_rfl) fun hg R' w' hw hs hd => by have a0 : QRep eStr A w' (R' 33) (gtD p0 s3) := hd 0 _ _ _ rfl rfl rfl rfl hg; exact (of_load a0.ptr Try.isAgg9 Try.sizeOf9)) <|
   Obls.cons (Obl.grd 8 true _ _ _ rfl rfl rfl rfl rfl (by kernel_rfl) fun hg R' w' hw hs hd => by have a0 : R' 1 = v1 := (hs 1 rfl).trans h1; exact of_move a0) <|
   Obls.cons (Obl.grd 8 true _ _ _ rfl rfl rfl rfl rfl (by kernel_rfl) fun hg R' w' hw hs hd => by have a0 : Rep eStr A w' (R' 34) (gtD p0 s3) := hd 0 _ _ _ rfl rfl rfl rfl hg; have a1 : R' 35 = v1 := hd 1 _ _ _ rfl rfl rfl rfl hg; have ra1 := (f_v1.fr hw).eq a1; exact of_seql a0 ra1) <|
   Obls.p (fun R' w' hw hs hd => by have a0 : R' 30 = .bool x10 := hd.g 0 rfl; exact of_pick x10 a0 (fun hc => by have a1 : R' 36 = .bool ((gtD p0 s3) == p1) := hd 1 _ _ _ rfl rfl rfl rfl (g_and rfl (beq_of hc)); show _ = Value.bool x13; rw [q14, hc]; exact a1) (fun hc => by show _ = Value.bool x13; rw [q14, hc]; exact rfl)) <|
   Obls.nil
 intro R w hw hs hF'
 replace h0 := (hs 0 rfl).trans h0
 replace h1 := (hs 1 rfl).trans h1
 replace h7 := (hs 7 rfl).trans h7
 have h37 : R 37 = .bool x13 := hF' 15 _ _ rfl rfl rfl
 replace f_v0 := f_v0.fr hw
 replace f_v1 := f_v1.fr hw
 replace hO := hO.fr hw
 replace hA := hA.fr hw.size
 replace hF := hF.trans hw
 clear hs hF' hw
 refine seqR_nil ?_
 refine HT.cond x13 h37 (fun c15 => ?_) (fun c15 => ?_)
 ·have hr := cnd_t c15 hr
  refine HT.seq ?_
  refine HT.text (l := ⟨_, true, .raw v0⟩ :: ⟨_, true, .raw v0⟩ :: []) (tl := []) (by kernel_rfl) (by kernel_rfl) (by kernel_rfl) ?_ ?_
  ·exact
    Obls.p (fun R' w' hw hs hd => of_move ((hs 0 rfl).trans h0)) <|
    Obls.p (fun R' w' hw hs hd => by have a0 : R' 38 = v0 := hd.g 0 rfl; exact of_assign a0) <|
    Obls.nil
  intro R w hw hs hF'
  have h6 : R 6 = v0 := hF' 1 _ _ rfl rfl rfl
  replace f_v0 := f_v0.fr hw
  replace hO := hO.fr hw
  replace hA := hA.fr hw.size
  replace hF := hF.trans hw
  clear hs hF' hw
  refine seqR_nil ?_
  refine HT.ret ?_
  obtain rfl := Option.some.inj hr
  exact ⟨.inr rfl, [R 6], ⟨rfl, trivial⟩, (f_v0.eq h6).down hAA, hF⟩
 ·have hr := cnd_f c15 hr
  refine HT.skip ?_
  refine HT.seq ?_
  obtain ⟨e16, hr⟩ := ck_some hr
  obtain ⟨e17, hr⟩ := ck_some hr
  obtain ⟨e18, hr⟩ := ck_some hr
  obtain ⟨e19, hr⟩ := ck_some hr
  obtain ⟨e20, hr⟩ := ck_some hr
  refine HT.drawR [] (⟨_, true, [], some (.vec w0.heap.size 9 eStr ([] : List (List UInt8))), true, fun A => .any⟩ :: ⟨_, true, [], none, true, fun A => .raw v0⟩ :: ⟨_, true, [], none, true, fun A => .raw (.int .i64 s3)⟩ :: ⟨_, true, [], none, true, fun A => .rep (eSl eStr) A (subL p0 0 s3)⟩ :: ⟨_, true, [0], some (.vec w0.heap.size 9 eStr (([] : List (List UInt8)) ++ (subL p0 0 s3))), true, fun A => .any⟩ :: ⟨_, true, [], none, true, fun A => .raw v1⟩ :: ⟨_, true, [], none, true, fun A => .rep (eSl eStr) A ([p1] : List (List UInt8))⟩ :: ⟨_, true, [4], some (.vec w0.heap.size 9 eStr ((([] : List (List UInt8)) ++ (subL p0 0 s3)) ++ ([p1] : List (List UInt8)))), true, fun A => .any⟩ :: ⟨_, true, [], none, true, fun A => .raw v0⟩ :: ⟨_, true, [], none, true, fun A => .raw (.int .i64 s3)⟩ :: ⟨_, true, [], none, true, fun A => .rep (eSl eStr) A (subL p0 s3 (p0.length : Int))⟩ :: ⟨_, true, [7], some (.nul), false, fun A => .rep (eSl eStr) A (((([] : List (List UInt8)) ++ (subL p0 0 s3)) ++ ([p1] : List (List UInt8))) ++ (subL p0 s3 (p0.length : Int)))⟩ :: ⟨_, true, [], none, true, fun A => .rep (eSl eStr) A (((([] : List (List UInt8)) ++ (subL p0 0 s3)) ++ ([p1] : List (List UInt8))) ++ (subL p0 s3 (p0.length : Int)))⟩ :: []) (by kernel_rfl) (by kernel_rfl) (by kernel_rfl) (Wf.mk' (by kernel_rfl) (UAll.cons ust_any (UAll.cons ust_raw (UAll.cons ust_raw (UAll.cons ust_rep (UAll.cons ust_any (UAll.cons ust_raw (UAll.cons ust_rep (UAll.cons ust_any (UAll.cons ust_raw (UAll.cons ust_raw (UAll.cons ust_rep (UAll.cons ust_rep (UAll.cons ust_rep (UAll.nil)))))))))))))) (by kernel_rfl) (by kernel_rfl)) hO hA ?_ ?_
  ·exact
    OblsR.cons (OblR.made _ rfl rfl rfl rfl fun A' R' w' ho hd => by exact made_build [] (E := eStr) trivial Try.underlying22 Try.sizeOf9 Try.zeroValue9 rfl rfl rfl (Nat.le_trans hF.size ho.ch.size)) <|
    OblsR.p (fun A' R' w' ho hd => of_move ((ho.old 0 rfl).trans h0)) <|
    OblsR.p (fun A' R' w' ho hd => of_move ((ho.old 7 rfl).trans h7)) <|
    OblsR.p (fun A' R' w' ho hd => by have a0 : R' 40 = v0 := hd.g 0 rfl; have a1 : R' 41 = .int .i64 s3 := hd.g 1 rfl; have ra0 := (f_v0.stp ho.stp).eq a0; exact of_slice_sl_hi ra0 a1 Try.underlying22 Try.sizeOf9 e16) <|
    OblsR.cons (OblR.took 0 _ _ rfl rfl rfl rfl rfl fun A' R' w' ho hd u hok hav hin hop hds => by have a1 : Rep (eSl eStr) A' w' (R' 42) (subL p0 0 s3) := hd.g 1 rfl; exact took_append (hop _ _ rfl rfl rfl rfl).symm hok hav (Nat.le_trans hF.size ho.ch.size) a1 Try.underlying22 el_9 e17) <|
    OblsR.p (fun A' R' w' ho hd => of_move ((ho.old 1 rfl).trans h1)) <|
    OblsR.p (fun A' R' w' ho hd => by have a0 : R' 44 = v1 := hd.g 0 rfl; have ra0 := (f_v1.stp ho.stp).eq a0; exact of_build [_] (E := eStr) ⟨ra0, trivial⟩ Try.underlying22 Try.sizeOf9 Try.zeroValue9 rfl rfl rfl ho.av) <|
    OblsR.cons (OblR.took 4 _ _ rfl rfl rfl rfl rfl fun A' R' w' ho hd u hok hav hin hop hds => by have a1 : Rep (eSl eStr) A' w' (R' 45) ([p1] : List (List UInt8)) := hd.g 1 rfl; exact took_append (hop _ _ rfl rfl rfl rfl).symm hok hav (Nat.le_trans hF.size ho.ch.size) a1 Try.underlying22 el_9 e18) <|
    OblsR.p (fun A' R' w' ho hd => of_move ((ho.old 0 rfl).trans h0)) <|
    OblsR.p (fun A' R' w' ho hd => of_move ((ho.old 7 rfl).trans h7)) <|
    OblsR.p (fun A' R' w' ho hd => by have a0 : R' 47 = v0 := hd.g 0 rfl; have a1 : R' 48 = .int .i64 s3 := hd.g 1 rfl; have ra0 := (f_v0.stp ho.stp).eq a0; exact of_slice_sl_lo ra0 a1 Try.underlying22 Try.sizeOf9 e19) <|
    OblsR.cons (OblR.frz 7 _ rfl rfl rfl rfl rfl fun A' R' w' ho hd u hok hav hin hop hds => by have a1 : Rep (eSl eStr) A' w' (R' 49) (subL p0 s3 (p0.length : Int)) := hd.g 1 rfl; exact OpR.thaw (took_append (hop _ _ rfl rfl rfl rfl).symm hok hav (Nat.le_trans hF.size ho.ch.size) a1 Try.underlying22 el_9 e20) ho.av hav) <|
    OblsR.p (fun A' R' w' ho hd => by have a0 : Rep (eSl eStr) A' w' (R' 50) (((([] : List (List UInt8)) ++ (subL p0 0 s3)) ++ ([p1] : List (List UInt8))) ++ (subL p0 s3 (p0.length : Int))) := hd.g 0 rfl; exact of_assign a0) <|
    OblsR.nil
  intro done ρ σ A R w hdn hI
  obtain ⟨u21, h6, f_u21⟩ : ∃ u, R 6 = u ∧ Rep (eSl eStr) A w u (((([] : List (List UInt8)) ++ (subL p0 0 s3)) ++ ([p1] : List (List UInt8))) ++ (subL p0 s3 (p0.length : Int))) := ⟨_, rfl, hI.fact hdn (i := 12) rfl rfl rfl⟩
  replace hAA := hI.low' hAA hA0 (hO.ge (trivial))
  replace hF : Fr w0 w := hF.tr hI.ch (hO.ge (trivial))
  replace hO : IniOK [] A w := hI.left hdn [] trivial
  replace hA := hI.avok
  clear hI
  refine HT.ret ?_
  obtain rfl := Option.some.inj hr
  exact ⟨.inr rfl, [R 6], ⟨rfl, trivial⟩, (f_u21.eq h6).down hAA, hF⟩
def M_spec_QGrams_L0 (fu : Nat) (p0 : List UInt8) (p1 : Int) : Nat → (List (List UInt8)) → Int → Option (List (List UInt8))
 | 0, _, _ => none
 | k + 1, y5, y6 =>
  ck (i64B (y6 + p1)) <|
  cl (true && ((decide ((y6 + p1) ≤ (p0.length : Int))) == true)) (M_spec_l1In fu p1 (1 : Int) (3 : Int)) fun x8 =>
  bd ((decide ((y6 + p1) ≤ (p0.length : Int))) && x8) fun x10 =>
  bif x10 then (
   ck (i64B (y6 + p1)) <|
   ck (subR y6 (y6 + p1) p0.length) <|
   cl true (M_spec_l3Put fu y5 (subL p0 y6 (y6 + p1)) true) fun x15 =>
   ck (i64B (y6 + (1 : Int))) <|
   M_spec_QGrams_L0 fu p0 p1 k x15 (y6 + (1 : Int))
  ) else (
   some y5
  )
def M_spec_QGrams (fu : Nat) (p0 : List UInt8) (p1 : Int) : Option (List (List UInt8)) :=
 cl true (M_spec_QGrams_L0 fu p0 p1 fu ([] : List (List UInt8)) (0 : Int)) fun s4 =>
 some s4
theorem M_spec_QGrams_ok {fu : Nat} {A : Av} {p0 : List UInt8} {p1 : Int} {r : List (List UInt8)} (hr : M_spec_QGrams fu p0 p1 = some r) {w : World} {v0 : Value} {v1 : Value} (hA : AvOK A w) (h0 : Rep eStr A w v0 p0) (h1 : v1 = .int .i64 p1) :
  Calls Try.prog 57 #[v0, v1] w fun e w' => ∃ v, e = .returned v ∧ (Rep (eSl eStr) A w' v r ∧ Fr w w') := by
 unfold M_spec_QGrams at hr
 obtain ⟨w0, hw0⟩ : ∃ w0, w0 = w := ⟨_, rfl⟩
 have hF : Fr w0 w := hw0 ▸ Fr.refl _
 rw [show Fr w = Fr w0 from hw0 ▸ rfl]
 clear hw0
 refine calls_of_HT2 [.tmp 4] Try.func57 Try.ntmps57 (by decide) rfl rfl (Nat.le_of_ble_eq_true rfl) ?_
 intro R hR
 have f_v0 := h0
 replace h0 : R 0 = v0 := hR 0 _ rfl
 replace h1 : R 1 = .int .i64 p1 := (hR 1 _ rfl).trans h1
 clear hR
 refine HT.seq ?_
 refine HT.text (l := ⟨_, true, .rep (eSl eStr) A ([] : List (List UInt8))⟩ :: []) (tl := []) (by kernel_rfl) (by kernel_rfl) (by kernel_rfl) ?_ ?_
 ·exact
   Obls.p (fun R' w' hw hs hd => of_assign rep_nil) <|
   Obls.nil
 intro R w hw hs hF'
 replace h0 := (hs 0 rfl).trans h0
 replace h1 := (hs 1 rfl).trans h1
 replace f_v0 := f_v0.fr hw
 replace hA := hA.fr hw.size
 replace hF := hF.trans hw
 clear hs hF' hw
 refine seqR_nil ?_
 refine HT.seq ?_
 refine HT.text (l := ⟨_, true, .rep (eSl eStr) A ([] : List (List UInt8))⟩ :: ⟨_, true, .rep (eSl eStr) A ([] : List (List UInt8))⟩ :: []) (tl := []) (by kernel_rfl) (by kernel_rfl) (by kernel_rfl) ?_ ?_
 ·exact
   Obls.p (fun R' w' hw hs hd => of_build [] (E := eStr) trivial Try.underlying22 Try.sizeOf9 Try.zeroValue9 rfl rfl rfl (hA.fr hw.size)) <|
   Obls.p (fun R' w' hw hs hd => by have a0 : Rep (eSl eStr) A w' (R' 7) ([] : List (List UInt8)) := hd.g 0 rfl; exact of_assign a0) <|
   Obls.nil
 intro R w hw hs hF'
 replace h0 := (hs 0 rfl).trans h0
 replace h1 := (hs 1 rfl).trans h1
 obtain ⟨u1, h5, f_u1⟩ : ∃ u, R 5 = u ∧ Rep (eSl eStr) A w u ([] : List (List UInt8)) := ⟨_, rfl, hF' 1 _ _ rfl rfl rfl⟩
 replace f_v0 := f_v0.fr hw
 replace hA := hA.fr hw.size
 replace hF := hF.trans hw
 clear hs hF' hw
 refine seqR_nil ?_
 refine HT.seq ?_
 refine HT.seq ?_
 refine HT.text (l := ⟨_, true, .raw (.int .i64 (0 : Int))⟩ :: []) (tl := []) (by kernel_rfl) (by kernel_rfl) (by kernel_rfl) ?_ ?_
 ·exact
   Obls.p (fun R' w' hw hs hd => of_assign rfl) <|
   Obls.nil
 intro R w hw hs hF'
 replace h0 := (hs 0 rfl).trans h0
 replace h1 := (hs 1 rfl).trans h1
 replace h5 := (hs 5 rfl).trans h5
 have h6 : R 6 = .int .i64 (0 : Int) := hF' 0 _ _ rfl rfl rfl
 replace f_u1 := f_u1.fr hw
 replace f_v0 := f_v0.fr hw
 replace hA := hA.fr hw.size
 replace hF := hF.trans hw
 clear hs hF' hw
 refine seqR_nil ?_
 obtain ⟨rl2, q3, hr⟩ := cl_some hr
 replace q3 := q3 rfl
 refine HT.cut0 (fun R w => ∃ (s4 : (List (List UInt8))) (wo_5 : Value), rl2 = s4 ∧ AvOK A w ∧ Fr w0 w ∧ R 5 = wo_5 ∧ Rep (eSl eStr) A w wo_5 s4) ?_ ?_
 ·refine HT.block ?_
  refine HT.loop (fun k R w => ∃ (y5 : List (List UInt8)) (y6 : Int) (wl_5 : Value), M_spec_QGrams_L0 fu p0 p1 k y5 y6 = some rl2 ∧ AvOK A w ∧ Fr w0 w ∧ R 0 = v0 ∧ R 1 = .int .i64 p1 ∧ R 5 = wl_5 ∧ R 6 = .int .i64 y6 ∧ Rep eStr A w v0 p0 ∧ Rep (eSl eStr) A w wl_5 y5) fu ⟨_, _, u1, q3, hA, hF, h0, h1, h5, h6, f_v0, f_u1⟩ ?_
  have hr0 := hr; clear hr q3
  rintro k R w ⟨y5, y6, wl_5, hr, hA, hF, h0, h1, h5, h6, f_v0, f_wl_5⟩
  rcases k with _ | k
  ·cases (show none = some _ from hr)
  rw [M_spec_QGrams_L0] at hr
  refine HT.seq ?_
  refine HT.seq ?_
  obtain ⟨e7, hr⟩ := ck_some hr
  obtain ⟨x8, q9, hr⟩ := cl_some hr
  obtain ⟨x10, q11, hr⟩ := bd_some hr
  refine HT.text (l := ⟨_, true, .raw (.int .i64 y6)⟩ :: ⟨_, true, .raw (.int .i64 p1)⟩ :: ⟨_, true, .raw (.int .i64 (y6 + p1))⟩ :: ⟨_, true, .raw v0⟩ :: ⟨_, true, .raw (.int .i64 (p0.length : Int))⟩ :: ⟨_, true, .raw (.bool (decide ((y6 + p1) ≤ (p0.length : Int))))⟩ :: ⟨_, true, .raw (.bool (decide ((y6 + p1) ≤ (p0.length : Int))))⟩ :: ⟨_, (true && ((decide ((y6 + p1) ≤ (p0.length : Int))) == true)), .raw (.int .i64 p1)⟩ :: ⟨_, (true && ((decide ((y6 + p1) ≤ (p0.length : Int))) == true)), .raw (.bool x8)⟩ :: ⟨_, true, .raw (.bool x10)⟩ :: []) (tl := []) (by kernel_rfl) (by kernel_rfl) (by kernel_rfl) ?_ ?_
  ·exact
    Obls.p (fun R' w' hw hs hd => of_move ((hs 6 rfl).trans h6)) <|
    Obls.p (fun R' w' hw hs hd => of_move ((hs 1 rfl).trans h1)) <|
    Obls.p (fun R' w' hw hs hd => by have a0 : R' 8 = .int .i64 y6 := hd.g 0 rfl; have a1 : R' 9 = .int .i64 p1 := hd.g 1 rfl; exact of_add a0 a1 e7) <|
    Obls.p (fun R' w' hw hs hd => of_move ((hs 0 rfl).trans h0)) <|
    Obls.p (fun R' w' hw hs hd => by have a0 : R' 11 = v0 := hd.g 0 rfl; have ra0 := (f_v0.fr hw).eq a0; exact of_len_str ra0 Try.underlying9) <|
    Obls.p (fun R' w' hw hs hd => by have a0 : R' 10 = .int .i64 (y6 + p1) := hd.g 0 rfl; have a1 : R' 12 = .int .i64 (p0.length : Int) := hd.g 1 rfl; exact of_leq a0 a1) <|
    Obls.p (fun R' w' hw hs hd => by have a0 : R' 13 = .bool (decide ((y6 + p1) ≤ (p0.length : Int))) := hd.g 0 rfl; exact of_move a0) <|
    Obls.cons (Obl.grd 6 true _ _ _ rfl rfl rfl rfl rfl (by kernel_rfl) fun hg R' w' hw hs hd => by have a0 : R' 1 = .int .i64 p1 := (hs 1 rfl).trans h1; exact of_move a0) <|
    Obls.cons (Obl.grd 6 true _ _ _ rfl rfl rfl rfl rfl (by kernel_rfl) fun hg R' w' hw hs hd => by have a0 : R' 15 = .int .i64 p1 := hd 0 _ _ _ rfl rfl rfl rfl hg; exact of_call Try.call70 (M_spec_l1In_ok (q9 hg) (hA.fr hw.size) a0 rfl rfl)) <|
    Obls.p (fun R' w' hw hs hd => by have a0 : R' 14 = .bool (decide ((y6 + p1) ≤ (p0.length : Int))) := hd.g 0 rfl; exact of_pick (decide ((y6 + p1) ≤ (p0.length : Int))) a0 (fun hc => by have a1 : R' 16 = .bool x8 := hd 1 _ _ _ rfl rfl rfl rfl (g_and rfl (beq_of hc)); show _ = Value.bool x10; rw [q11, hc]; exact a1) (fun hc => by show _ = Value.bool x10; rw [q11, hc]; exact rfl)) <|
    Obls.nil
  intro R w hw hs hF'
  replace h0 := (hs 0 rfl).trans h0
  replace h1 := (hs 1 rfl).trans h1
  replace h5 := (hs 5 rfl).trans h5
  replace h6 := (hs 6 rfl).trans h6
  have h17 : R 17 = .bool x10 := hF' 9 _ _ rfl rfl rfl
  replace f_v0 := f_v0.fr hw
  replace f_wl_5 := f_wl_5.fr hw
  replace hA := hA.fr hw.size
  replace hF := hF.trans hw
  clear hs hF' hw
  refine seqR_nil ?_
  refine HT.cond x10 h17 (fun c12 => ?_) (fun c12 => ?_)
  ·have hr := cnd_t c12 hr
   refine HT.skip ?_
   refine HT.seq ?_
   refine HT.block ?_
   obtain ⟨e13, hr⟩ := ck_some hr
   obtain ⟨e14, hr⟩ := ck_some hr
   obtain ⟨x15, q16, hr⟩ := cl_some hr
   refine HT.text (l := ⟨_, true, .raw wl_5⟩ :: ⟨_, true, .raw v0⟩ :: ⟨_, true, .raw (.int .i64 y6)⟩ :: ⟨_, true, .raw (.int .i64 y6)⟩ :: ⟨_, true, .raw (.int .i64 p1)⟩ :: ⟨_, true, .raw (.int .i64 (y6 + p1))⟩ :: ⟨_, true, .rep eStr A (subL p0 y6 (y6 + p1))⟩ :: ⟨_, true, .rep (eSl eStr) A x15⟩ :: ⟨_, true, .rep (eSl eStr) A x15⟩ :: []) (tl := []) (by kernel_rfl) (by kernel_rfl) (by kernel_rfl) ?_ ?_
   ·exact
     Obls.p (fun R' w' hw hs hd => of_move ((hs 5 rfl).trans h5)) <|
     Obls.p (fun R' w' hw hs hd => of_move ((hs 0 rfl).trans h0)) <|
     Obls.p (fun R' w' hw hs hd => of_move ((hs 6 rfl).trans h6)) <|
     Obls.p (fun R' w' hw hs hd => of_move ((hs 6 rfl).trans h6)) <|
     Obls.p (fun R' w' hw hs hd => of_move ((hs 1 rfl).trans h1)) <|
     Obls.p (fun R' w' hw hs hd => by have a0 : R' 23 = .int .i64 y6 := hd.g 0 rfl; have a1 : R' 24 = .int .i64 p1 := hd.g 1 rfl; exact of_add a0 a1 e13) <|
     Obls.p (fun R' w' hw hs hd => by have a0 : R' 21 = v0 := hd.g 0 rfl; have a1 : R' 22 = .int .i64 y6 := hd.g 1 rfl; have a2 : R' 25 = .int .i64 (y6 + p1) := hd.g 2 rfl; have ra0 := (f_v0.fr hw).eq a0; exact of_slice_str ra0 a1 a2 Try.underlying9  e14) <|
     Obls.p (fun R' w' hw hs hd => by have a0 : R' 20 = wl_5 := hd.g 0 rfl; have ra0 := (f_wl_5.fr hw).eq a0; have a1 : Rep eStr A w' (R' 26) (subL p0 y6 (y6 + p1)) := hd.g 1 rfl; exact of_call Try.call85 (M_spec_l3Put_ok (q16 rfl) (hA.fr hw.size) ra0 a1 rfl)) <|
     Obls.p (fun R' w' hw hs hd => by have a0 : Rep (eSl eStr) A w' (R' 27) x15 := hd.g 0 rfl; exact of_assign a0) <|
     Obls.nil
   intro R w hw hs hF'
   replace h0 := (hs 0 rfl).trans h0
   replace h1 := (hs 1 rfl).trans h1
   replace h6 := (hs 6 rfl).trans h6
   obtain ⟨u17, h5, f_u17⟩ : ∃ u, R 5 = u ∧ Rep (eSl eStr) A w u x15 := ⟨_, rfl, hF' 8 _ _ rfl rfl rfl⟩
   replace f_v0 := f_v0.fr hw
   replace hA := hA.fr hw.size
   replace hF := hF.trans hw
   clear hs hF' hw
   refine seqR_nil ?_
   obtain ⟨e18, hr⟩ := ck_some hr
   refine HT.text (l := ⟨_, true, .raw (.int .i64 y6)⟩ :: ⟨_, true, .raw (.int .i64 (y6 + (1 : Int)))⟩ :: ⟨_, true, .raw (.int .i64 (y6 + (1 : Int)))⟩ :: []) (tl := []) (by kernel_rfl) (by kernel_rfl) (by kernel_rfl) ?_ ?_
   ·exact
     Obls.p (fun R' w' hw hs hd => of_move ((hs 6 rfl).trans h6)) <|
     Obls.p (fun R' w' hw hs hd => by have a0 : R' 18 = .int .i64 y6 := hd.g 0 rfl; exact of_add a0 rfl e18) <|
     Obls.p (fun R' w' hw hs hd => by have a0 : R' 19 = .int .i64 (y6 + (1 : Int)) := hd.g 0 rfl; exact of_assign a0) <|
     Obls.nil
   intro R w hw hs hF'
   replace h0 := (hs 0 rfl).trans h0
   replace h1 := (hs 1 rfl).trans h1
   replace h5 := (hs 5 rfl).trans h5
   have h6 : R 6 = .int .i64 (y6 + (1 : Int)) := hF' 2 _ _ rfl rfl rfl
   replace f_u17 := f_u17.fr hw
   replace f_v0 := f_v0.fr hw
   replace hA := hA.fr hw.size
   replace hF := hF.trans hw
   clear hs hF' hw
   refine seqR_nil ?_
   exact Exists.intro k (And.intro (Nat.lt_succ_self k) ⟨_, _, u17, hr, hA, hF, h0, h1, h5, h6, f_v0, f_u17⟩)
  ·have hr := cnd_f c12 hr
   refine HT.exit ?_
   obtain rfl := Option.some.inj hr
   exact Exists.intro _ ⟨wl_5, rfl, hA, hF, h5, f_wl_5⟩
 rintro R w ⟨s4, wo_5, es, hA, hF, h5, f_wo_5⟩
 obtain rfl := es.symm
 refine HT.seq ?_
 refine HT.text (l := ⟨_, true, .raw wo_5⟩ :: ⟨_, true, .raw wo_5⟩ :: []) (tl := []) (by kernel_rfl) (by kernel_rfl) (by kernel_rfl) ?_ ?_
 ·exact
   Obls.p (fun R' w' hw hs hd => of_move ((hs 5 rfl).trans h5)) <|
   Obls.p (fun R' w' hw hs hd => by have a0 : R' 28 = wo_5 := hd.g 0 rfl; exact of_assign a0) <|
   Obls.nil
 intro R w hw hs hF'
 have h4 : R 4 = wo_5 := hF' 1 _ _ rfl rfl rfl
 replace f_wo_5 := f_wo_5.fr hw
 replace hA := hA.fr hw.size
 replace hF := hF.trans hw
 clear hs hF' hw
 refine seqR_nil ?_
 refine HT.ret ?_
 obtain rfl := Option.some.inj hr
 exact ⟨.inr rfl, [R 4], ⟨rfl, trivial⟩, (f_wo_5.eq h4), hF⟩
def M_spec_l3Count_L0 (fu : Nat) (p0 : List (List UInt8)) (p1 : List UInt8) : Nat → Int → Int → Option Int
 | 0, _, _ => none
 | k + 1, y4, y5 =>
  bif (decide (y5 < (p0.length : Int))) then (
   ck (inR y5 p0.length) <|
   bif ((gtD p0 y5) == p1) then (
    ck (i64B (y4 + (1 : Int))) <|
    ck (i64B (y5 + (1 : Int))) <|
    M_spec_l3Count_L0 fu p0 p1 k (y4 + (1 : Int)) (y5 + (1 : Int))
   ) else (
    ck (i64B (y5 + (1 : Int))) <|
    M_spec_l3Count_L0 fu p0 p1 k y4 (y5 + (1 : Int))
   )
  ) else (
   some y4
  )
def M_spec_l3Count (fu : Nat) (p0 : List (List UInt8)) (p1 : List UInt8) : Option Int :=
 cl true (M_spec_l3Count_L0 fu p0 p1 fu (0 : Int) (0 : Int)) fun s3 =>
 some s3
theorem M_spec_l3Count_ok {fu : Nat} {A : Av} {p0 : List (List UInt8)} {p1 : List UInt8} {r : Int} (hr : M_spec_l3Count fu p0 p1 = some r) {w : World} {v0 : Value} {v1 : Value} (hA : AvOK A w) (h0 : Rep (eSl eStr) A w v0 p0) (h1 : Rep eStr A w v1 p1) :
  Calls Try.prog 99 #[v0, v1] w fun e w' => ∃ v, e = .returned v ∧ (v = .int .i64 r ∧ Fr w w') := by
 unfold M_spec_l3Count at hr
 obtain ⟨w0, hw0⟩ : ∃ w0, w0 = w := ⟨_, rfl⟩
 have hF : Fr w0 w := hw0 ▸ Fr.refl _
 rw [show Fr w = Fr w0 from hw0 ▸ rfl]
 clear hw0
 refine calls_of_HT2 [.tmp 4] Try.func99 Try.ntmps99 (by decide) rfl rfl (Nat.le_of_ble_eq_true rfl) ?_
 intro R hR
 have f_v0 := h0
 replace h0 : R 0 = v0 := hR 0 _ rfl
 have f_v1 := h1
 replace h1 : R 1 = v1 := hR 1 _ rfl
 clear hR
 refine HT.seq ?_
 refine HT.text (l := ⟨_, true, .raw (.int .i64 (0 : Int))⟩ :: []) (tl := []) (by kernel_rfl) (by kernel_rfl) (by kernel_rfl) ?_ ?_
 ·exact
   Obls.p (fun R' w' hw hs hd => of_assign rfl) <|
   Obls.nil
 intro R w hw hs hF'
 replace h0 := (hs 0 rfl).trans h0
 replace h1 := (hs 1 rfl).trans h1
 replace f_v0 := f_v0.fr hw
 replace f_v1 := f_v1.fr hw
 replace hA := hA.fr hw.size
 replace hF := hF.trans hw
 clear hs hF' hw
 refine seqR_nil ?_
 refine HT.seq ?_
 refine HT.text (l := ⟨_, true, .raw (.int .i64 (0 : Int))⟩ :: []) (tl := []) (by kernel_rfl) (by kernel_rfl) (by kernel_rfl) ?_ ?_
 ·exact
   Obls.p (fun R' w' hw hs hd => of_assign rfl) <|
   Obls.nil
 intro R w hw hs hF'
 replace h0 := (hs 0 rfl).trans h0
 replace h1 := (hs 1 rfl).trans h1
 have h5 : R 5 = .int .i64 (0 : Int) := hF' 0 _ _ rfl rfl rfl
 replace f_v0 := f_v0.fr hw
 replace f_v1 := f_v1.fr hw
 replace hA := hA.fr hw.size
 replace hF := hF.trans hw
 clear hs hF' hw
 refine seqR_nil ?_
 refine HT.seq ?_
 refine HT.seq ?_
 refine HT.text (l := ⟨_, true, .raw (.int .i64 (0 : Int))⟩ :: []) (tl := []) (by kernel_rfl) (by kernel_rfl) (by kernel_rfl) ?_ ?_
 ·exact
   Obls.p (fun R' w' hw hs hd => of_assign rfl) <|
   Obls.nil
 intro R w hw hs hF'
 replace h0 := (hs 0 rfl).trans h0
 replace h1 := (hs 1 rfl).trans h1
 replace h5 := (hs 5 rfl).trans h5
 have h6 : R 6 = .int .i64 (0 : Int) := hF' 0 _ _ rfl rfl rfl
 replace f_v0 := f_v0.fr hw
 replace f_v1 := f_v1.fr hw
 replace hA := hA.fr hw.size
 replace hF := hF.trans hw
 clear hs hF' hw
 refine seqR_nil ?_
 obtain ⟨rl1, q2, hr⟩ := cl_some hr
 replace q2 := q2 rfl
 refine HT.cut0 (fun R w => ∃ (s3 : Int), rl1 = s3 ∧ AvOK A w ∧ Fr w0 w ∧ R 5 = .int .i64 s3) ?_ ?_
 ·refine HT.block ?_
  refine HT.loop (fun k R w => ∃ (y4 : Int) (y5 : Int), M_spec_l3Count_L0 fu p0 p1 k y4 y5 = some rl1 ∧ AvOK A w ∧ Fr w0 w ∧ R 0 = v0 ∧ R 1 = v1 ∧ R 5 = .int .i64 y4 ∧ R 6 = .int .i64 y5 ∧ Rep (eSl eStr) A w v0 p0 ∧ Rep eStr A w v1 p1) fu ⟨_, _, q2, hA, hF, h0, h1, h5, h6, f_v0, f_v1⟩ ?_
  have hr0 := hr; clear hr q2
  rintro k R w ⟨y4, y5, hr, hA, hF, h0, h1, h5, h6, f_v0, f_v1⟩
  rcases k with _ | k
  ·cases (show none = some _ from hr)
  rw [M_spec_l3Count_L0] at hr
  refine HT.seq ?_
  refine HT.seq ?_
  refine HT.text (l := ⟨_, true, .raw (.int .i64 y5)⟩ :: ⟨_, true, .raw v0⟩ :: ⟨_, true, .raw (.int .i64 (p0.length : Int))⟩ :: ⟨_, true, .raw (.bool (decide (y5 < (p0.length : Int))))⟩ :: []) (tl := []) (by kernel_rfl) (by kernel_rfl) (by kernel_rfl) ?_ ?_
  ·exact
    Obls.p (fun R' w' hw hs hd => of_move ((hs 6 rfl).trans h6)) <|
    Obls.p (fun R' w' hw hs hd => of_move ((hs 0 rfl).trans h0)) <|
    Obls.p (fun R' w' hw hs hd => by have a0 : R' 8 = v0 := hd.g 0 rfl; have ra0 := (f_v0.fr hw).eq a0; exact of_len_sl (aT := #[]) ra0 Try.underlying22) <|
    Obls.p (fun R' w' hw hs hd => by have a0 : R' 7 = .int .i64 y5 := hd.g 0 rfl; have a1 : R' 9 = .int .i64 (p0.length : Int) := hd.g 1 rfl; exact of_lss a0 a1) <|
    Obls.nil
  intro R w hw hs hF'
  replace h0 := (hs 0 rfl).trans h0
  replace h1 := (hs 1 rfl).trans h1
  replace h5 := (hs 5 rfl).trans h5
  replace h6 := (hs 6 rfl).trans h6
  have h10 : R 10 = .bool (decide (y5 < (p0.length : Int))) := hF' 3 _ _ rfl rfl rfl
  replace f_v0 := f_v0.fr hw
  replace f_v1 := f_v1.fr hw
  replace hA := hA.fr hw.size
  replace hF := hF.trans hw
  clear hs hF' hw
  refine seqR_nil ?_
  refine HT.cond (decide (y5 < (p0.length : Int))) h10 (fun c6 => ?_) (fun c6 => ?_)
  ·have hr := cnd_t c6 hr
   refine HT.skip ?_
   refine HT.seq ?_
   refine HT.block ?_
   refine HT.seq ?_
   obtain ⟨e7, hr⟩ := ck_some hr
   refine HT.text (l := ⟨_, true, .raw v0⟩ :: ⟨_, true, .raw (.int .i64 y5)⟩ :: ⟨_, true, .qtr eStr A (gtD p0 y5)⟩ :: ⟨_, true, .rep eStr A (gtD p0 y5)⟩ :: ⟨_, true, .raw v1⟩ :: ⟨_, true, .raw (.bool ((gtD p0 y5) == p1))⟩ :: []) (tl := []) (by kernel_rfl) (by kernel_rfl) (by kernel_rfl) ?_ ?_
   ·exact
     Obls.p (fun R' w' hw hs hd => of_move ((hs 0 rfl).trans h0)) <|
     Obls.p (fun R' w' hw hs hd => of_move ((hs 6 rfl).trans h6)) <|
     Obls.p (fun R' w' hw hs hd => by have a0 : R' 13 = v0 := hd.g 0 rfl; have a1 : R' 14 = .int .i64 y5 := hd.g 1 rfl; have ra0 := (f_v0.fr hw).eq a0; exact of_indexAddr ra0 a1 Try.underlying22 Try.sizeOf9 e7) <|
     Obls.p (fun R' w' hw hs hd => by have a0 : QRep eStr A w' (R' 15) (gtD p0 y5) := hd.g 0 rfl; exact (of_load a0.ptr Try.isAgg9 Try.sizeOf9)) <|
     Obls.p (fun R' w' hw hs hd => of_move ((hs 1 rfl).trans h1)) <|
     Obls.p (fun R' w' hw hs hd => by have a0 : Rep eStr A w' (R' 16) (gtD p0 y5) := hd.g 0 rfl; have a1 : R' 17 = v1 := hd.g 1 rfl; have ra1 := (f_v1.fr hw).eq a1; exact of_seql a0 ra1) <|
     Obls.nil
   intro R w hw hs hF'
   replace h0 := (hs 0 rfl).trans h0
   replace h1 := (hs 1 rfl).trans h1
   replace h5 := (hs 5 rfl).trans h5
   replace h6 := (hs 6 rfl).trans h6
   have h18 : R 18 = .bool ((gtD p0 y5) == p1) := hF' 5 _ _ rfl rfl rfl
   replace f_v0 := f_v0.fr hw
   replace f_v1 := f_v1.fr hw
   replace hA := hA.fr hw.size
   replace hF := hF.trans hw
   clear hs hF' hw
   refine seqR_nil ?_
   refine HT.cond ((gtD p0 y5) == p1) h18 (fun c8 => ?_) (fun c8 => ?_)
   ·have hr := cnd_t c8 hr
    obtain ⟨e9, hr⟩ := ck_some hr
    refine HT.text (l := ⟨_, true, .raw (.int .i64 y4)⟩ :: ⟨_, true, .raw (.int .i64 (y4 + (1 : Int)))⟩ :: ⟨_, true, .raw (.int .i64 (y4 + (1 : Int)))⟩ :: []) (tl := []) (by kernel_rfl) (by kernel_rfl) (by kernel_rfl) ?_ ?_
    ·exact
      Obls.p (fun R' w' hw hs hd => of_move ((hs 5 rfl).trans h5)) <|
      Obls.p (fun R' w' hw hs hd => by have a0 : R' 19 = .int .i64 y4 := hd.g 0 rfl; exact of_add a0 rfl e9) <|
      Obls.p (fun R' w' hw hs hd => by have a0 : R' 20 = .int .i64 (y4 + (1 : Int)) := hd.g 0 rfl; exact of_assign a0) <|
      Obls.nil
    intro R w hw hs hF'
    replace h0 := (hs 0 rfl).trans h0
    replace h1 := (hs 1 rfl).trans h1
    replace h6 := (hs 6 rfl).trans h6
    have h5 : R 5 = .int .i64 (y4 + (1 : Int)) := hF' 2 _ _ rfl rfl rfl
    replace f_v0 := f_v0.fr hw
    replace f_v1 := f_v1.fr hw
    replace hA := hA.fr hw.size
    replace hF := hF.trans hw
    clear hs hF' hw
    refine seqR_nil ?_
    obtain ⟨e10, hr⟩ := ck_some hr
    refine HT.text (l := ⟨_, true, .raw (.int .i64 y5)⟩ :: ⟨_, true, .raw (.int .i64 (y5 + (1 : Int)))⟩ :: ⟨_, true, .raw (.int .i64 (y5 + (1 : Int)))⟩ :: []) (tl := []) (by kernel_rfl) (by kernel_rfl) (by kernel_rfl) ?_ ?_
    ·exact
      Obls.p (fun R' w' hw hs hd => of_move ((hs 6 rfl).trans h6)) <|
      Obls.p (fun R' w' hw hs hd => by have a0 : R' 11 = .int .i64 y5 := hd.g 0 rfl; exact of_add a0 rfl e10) <|
      Obls.p (fun R' w' hw hs hd => by have a0 : R' 12 = .int .i64 (y5 + (1 : Int)) := hd.g 0 rfl; exact of_assign a0) <|
      Obls.nil
    intro R w hw hs hF'
    replace h0 := (hs 0 rfl).trans h0
    replace h1 := (hs 1 rfl).trans h1
    replace h5 := (hs 5 rfl).trans h5
    have h6 : R 6 = .int .i64 (y5 + (1 : Int)) := hF' 2 _ _ rfl rfl rfl
    replace f_v0 := f_v0.fr hw
    replace f_v1 := f_v1.fr hw
    replace hA := hA.fr hw.size
    replace hF := hF.trans hw
    clear hs hF' hw
    refine seqR_nil ?_
    exact Exists.intro k (And.intro (Nat.lt_succ_self k) ⟨_, _, hr, hA, hF, h0, h1, h5, h6, f_v0, f_v1⟩)
   ·have hr := cnd_f c8 hr
    refine HT.skip ?_
    obtain ⟨e11, hr⟩ := ck_some hr
    refine HT.text (l := ⟨_, true, .raw (.int .i64 y5)⟩ :: ⟨_, true, .raw (.int .i64 (y5 + (1 : Int)))⟩ :: ⟨_, true, .raw (.int .i64 (y5 + (1 : Int)))⟩ :: []) (tl := []) (by kernel_rfl) (by kernel_rfl) (by kernel_rfl) ?_ ?_
    ·exact
      Obls.p (fun R' w' hw hs hd => of_move ((hs 6 rfl).trans h6)) <|
      Obls.p (fun R' w' hw hs hd => by have a0 : R' 11 = .int .i64 y5 := hd.g 0 rfl; exact of_add a0 rfl e11) <|
      Obls.p (fun R' w' hw hs hd => by have a0 : R' 12 = .int .i64 (y5 + (1 : Int)) := hd.g 0 rfl; exact of_assign a0) <|
      Obls.nil
    intro R w hw hs hF'
    replace h0 := (hs 0 rfl).trans h0
    replace h1 := (hs 1 rfl).trans h1
    replace h5 := (hs 5 rfl).trans h5
    have h6 : R 6 = .int .i64 (y5 + (1 : Int)) := hF' 2 _ _ rfl rfl rfl
    replace f_v0 := f_v0.fr hw
    replace f_v1 := f_v1.fr hw
    replace hA := hA.fr hw.size
    replace hF := hF.trans hw
    clear hs hF' hw
    refine seqR_nil ?_
    exact Exists.intro k (And.intro (Nat.lt_succ_self k) ⟨_, _, hr, hA, hF, h0, h1, h5, h6, f_v0, f_v1⟩)
  ·have hr := cnd_f c6 hr
   refine HT.exit ?_
   obtain rfl := Option.some.inj hr
   exact Exists.intro _ ⟨rfl, hA, hF, h5⟩
 rintro R w ⟨s3, es, hA, hF, h5⟩
 obtain rfl := es.symm
 refine HT.seq ?_
 refine HT.text (l := ⟨_, true, .raw (.int .i64 s3)⟩ :: ⟨_, true, .raw (.int .i64 s3)⟩ :: []) (tl := []) (by kernel_rfl) (by kernel_rfl) (by kernel_rfl) ?_ ?_
 ·exact
   Obls.p (fun R' w' hw hs hd => of_move ((hs 5 rfl).trans h5)) <|
   Obls.p (fun R' w' hw hs hd => by have a0 : R' 21 = .int .i64 s3 := hd.g 0 rfl; exact of_assign a0) <|
   Obls.nil
 intro R w hw hs hF'
 have h4 : R 4 = .int .i64 s3 := hF' 1 _ _ rfl rfl rfl
 replace hA := hA.fr hw.size
 replace hF := hF.trans hw
 clear hs hF' hw
 refine seqR_nil ?_
 refine HT.ret ?_
 obtain rfl := Option.some.inj hr
 exact ⟨.inr rfl, [R 4], ⟨rfl, trivial⟩, h4, hF⟩
def M_spec_CommonGrams_L0 (fu : Nat) (p0 : List (List UInt8)) (p1 : List (List UInt8)) : Nat → Int → Int → Option Int
 | 0, _, _ => none
 | k + 1, y4, y5 =>
  bif (decide (y5 < (p0.length : Int))) then (
   ck (subR 0 y5 p0.length) <|
   ck (inR y5 p0.length) <|
   cl true (M_spec_l3Count fu (subL p0 0 y5) (gtD p0 y5)) fun x9 =>
   ck (inR y5 p0.length) <|
   cl true (M_spec_l3Count fu p1 (gtD p0 y5)) fun x12 =>
   bif (decide (x9 < x12)) then (
    ck (i64B (y4 + (1 : Int))) <|
    ck (i64B (y5 + (1 : Int))) <|
    M_spec_CommonGrams_L0 fu p0 p1 k (y4 + (1 : Int)) (y5 + (1 : Int))
   ) else (
    ck (i64B (y5 + (1 : Int))) <|
    M_spec_CommonGrams_L0 fu p0 p1 k y4 (y5 + (1 : Int))
   )
  ) else (
   some y4
  )
def M_spec_CommonGrams (fu : Nat) (p0 : List (List UInt8)) (p1 : List (List UInt8)) : Option Int :=
 cl true (M_spec_CommonGrams_L0 fu p0 p1 fu (0 : Int) (0 : Int)) fun s3 =>
 some s3
theorem M_spec_CommonGrams_ok {fu : Nat} {A : Av} {p0 : List (List UInt8)} {p1 : List (List UInt8)} {r : Int} (hr : M_spec_CommonGrams fu p0 p1 = some r) {w : World} {v0 : Value} {v1 : Value} (hA : AvOK A w) (h0 : Rep (eSl eStr) A w v0 p0) (h1 : Rep (eSl eStr) A w v1 p1) :
  Calls Try.prog 56 #[v0, v1] w fun e w' => ∃ v, e = .returned v ∧ (v = .int .i64 r ∧ Fr w w') := by
 unfold M_spec_CommonGrams at hr
 obtain ⟨w0, hw0⟩ : ∃ w0, w0 = w := ⟨_, rfl⟩
 have hF : Fr w0 w := hw0 ▸ Fr.refl _
 rw [show Fr w = Fr w0 from hw0 ▸ rfl]
 clear hw0
 refine calls_of_HT2 [.tmp 4] Try.func56 Try.ntmps56 (by decide) rfl rfl (Nat.le_of_ble_eq_true rfl) ?_
 intro R hR
 have f_v0 := h0
 replace h0 : R 0 = v0 := hR 0 _ rfl
 have f_v1 := h1
 replace h1 : R 1 = v1 := hR 1 _ rfl
 clear hR
 refine HT.seq ?_
 refine HT.text (l := ⟨_, true, .raw (.int .i64 (0 : Int))⟩ :: []) (tl := []) (by kernel_rfl) (by kernel_rfl) (by kernel_rfl) ?_ ?_
 ·exact
   Obls.p (fun R' w' hw hs hd => of_assign rfl) <|
   Obls.nil
 intro R w hw hs hF'
 replace h0 := (hs 0 rfl).trans h0
 replace h1 := (hs 1 rfl).trans h1
 replace f_v0 := f_v0.fr hw
 replace f_v1 := f_v1.fr hw
 replace hA := hA.fr hw.size
 replace hF := hF.trans hw
 clear hs hF' hw
 refine seqR_nil ?_
 refine HT.seq ?_
 refine HT.text (l := ⟨_, true, .raw (.int .i64 (0 : Int))⟩ :: []) (tl := []) (by kernel_rfl) (by kernel_rfl) (by kernel_rfl) ?_ ?_
 ·exact
   Obls.p (fun R' w' hw hs hd => of_assign rfl) <|
   Obls.nil
 intro R w hw hs hF'
 replace h0 := (hs 0 rfl).trans h0
 replace h1 := (hs 1 rfl).trans h1
 have h5 : R 5 = .int .i64 (0 : Int) := hF' 0 _ _ rfl rfl rfl
 replace f_v0 := f_v0.fr hw
 replace f_v1 := f_v1.fr hw
 replace hA := hA.fr hw.size
 replace hF := hF.trans hw
 clear hs hF' hw
 refine seqR_nil ?_
 refine HT.seq ?_
 refine HT.seq ?_
 refine HT.text (l := ⟨_, true, .raw (.int .i64 (0 : Int))⟩ :: []) (tl := []) (by kernel_rfl) (by kernel_rfl) (by kernel_rfl) ?_ ?_
 ·exact
   Obls.p (fun R' w' hw hs hd => of_assign rfl) <|
   Obls.nil
 intro R w hw hs hF'
 replace h0 := (hs 0 rfl).trans h0
 replace h1 := (hs 1 rfl).trans h1
 replace h5 := (hs 5 rfl).trans h5
 have h6 : R 6 = .int .i64 (0 : Int) := hF' 0 _ _ rfl rfl rfl
 replace f_v0 := f_v0.fr hw
 replace f_v1 := f_v1.fr hw
 replace hA := hA.fr hw.size
 replace hF := hF.trans hw
 clear hs hF' hw
 refine seqR_nil ?_
 obtain ⟨rl1, q2, hr⟩ := cl_some hr
 replace q2 := q2 rfl
 refine HT.cut0 (fun R w => ∃ (s3 : Int), rl1 = s3 ∧ AvOK A w ∧ Fr w0 w ∧ R 5 = .int .i64 s3) ?_ ?_
 ·refine HT.block ?_
  refine HT.loop (fun k R w => ∃ (y4 : Int) (y5 : Int), M_spec_CommonGrams_L0 fu p0 p1 k y4 y5 = some rl1 ∧ AvOK A w ∧ Fr w0 w ∧ R 0 = v0 ∧ R 1 = v1 ∧ R 5 = .int .i64 y4 ∧ R 6 = .int .i64 y5 ∧ Rep (eSl eStr) A w v0 p0 ∧ Rep (eSl eStr) A w v1 p1) fu ⟨_, _, q2, hA, hF, h0, h1, h5, h6, f_v0, f_v1⟩ ?_
  have hr0 := hr; clear hr q2
  rintro k R w ⟨y4, y5, hr, hA, hF, h0, h1, h5, h6, f_v0, f_v1⟩
  rcases k with _ | k
  ·cases (show none = some _ from hr)
  rw [M_spec_CommonGrams_L0] at hr
  refine HT.seq ?_
  refine HT.seq ?_
  refine HT.text (l := ⟨_, true, .raw (.int .i64 y5)⟩ :: ⟨_, true, .raw v0⟩ :: ⟨_, true, .raw (.int .i64 (p0.length : Int))⟩ :: ⟨_, true, .raw (.bool (decide (y5 < (p0.length : Int))))⟩ :: []) (tl := []) (by kernel_rfl) (by kernel_rfl) (by kernel_rfl) ?_ ?_
  ·exact
    Obls.p (fun R' w' hw hs hd => of_move ((hs 6 rfl).trans h6)) <|
    Obls.p (fun R' w' hw hs hd => of_move ((hs 0 rfl).trans h0)) <|
    Obls.p (fun R' w' hw hs hd => by have a0 : R' 8 = v0 := hd.g 0 rfl; have ra0 := (f_v0.fr hw).eq a0; exact of_len_sl (aT := #[]) ra0 Try.underlying22) <|
    Obls.p (fun R' w' hw hs hd => by have a0 : R' 7 = .int .i64 y5 := hd.g 0 rfl; have a1 : R' 9 = .int .i64 (p0.length : Int) := hd.g 1 rfl; exact of_lss a0 a1) <|
    Obls.nil
  intro R w hw hs hF'
  replace h0 := (hs 0 rfl).trans h0
  replace h1 := (hs 1 rfl).trans h1
  replace h5 := (hs 5 rfl).trans h5
  replace h6 := (hs 6 rfl).trans h6
  have h10 : R 10 = .bool (decide (y5 < (p0.length : Int))) := hF' 3 _ _ rfl rfl rfl
  replace f_v0 := f_v0.fr hw
  replace f_v1 := f_v1.fr hw
  replace hA := hA.fr hw.size
  replace hF := hF.trans hw
  clear hs hF' hw
  refine seqR_nil ?_
  refine HT.cond (decide (y5 < (p0.length : Int))) h10 (fun c6 => ?_) (fun c6 => ?_)
  ·have hr := cnd_t c6 hr
   refine HT.skip ?_
   refine HT.seq ?_
   refine HT.block ?_
   refine HT.seq ?_
   obtain ⟨e7, hr⟩ := ck_some hr
   obtain ⟨e8, hr⟩ := ck_some hr
   obtain ⟨x9, q10, hr⟩ := cl_some hr
   obtain ⟨e11, hr⟩ := ck_some hr
   obtain ⟨x12, q13, hr⟩ := cl_some hr
   refine HT.draw (by kernel_rfl) (l := ⟨_, true, .raw v0⟩ :: ⟨_, true, .raw (.int .i64 y5)⟩ :: ⟨_, true, .rep (eSl eStr) A (subL p0 0 y5)⟩ :: ⟨_, true, .raw v0⟩ :: ⟨_, true, .raw (.int .i64 y5)⟩ :: ⟨_, true, .qtr eStr A (gtD p0 y5)⟩ :: ⟨_, true, .rep eStr A (gtD p0 y5)⟩ :: ⟨_, true, .raw (.int .i64 x9)⟩ :: ⟨_, true, .raw v1⟩ :: ⟨_, true, .raw v0⟩ :: ⟨_, true, .raw (.int .i64 y5)⟩ :: ⟨_, true, .qtr eStr A (gtD p0 y5)⟩ :: ⟨_, true, .rep eStr A (gtD p0 y5)⟩ :: ⟨_, true, .raw (.int .i64 x12)⟩ :: ⟨_, true, .raw (.bool (decide (x9 < x12)))⟩ :: []) (tl := []) (by kernel_rfl) (by kernel_rfl) (by kernel_rfl) (by kernel_rfl) ?_ ?_
   ·exact
     Obls.p (fun R' w' hw hs hd => of_move ((hs 0 rfl).trans h0)) <|
     Obls.p (fun R' w' hw hs hd => of_move ((hs 6 rfl).trans h6)) <|
     Obls.p (fun R' w' hw hs hd => by have a0 : R' 13 = v0 := hd.g 0 rfl; have a1 : R' 14 = .int .i64 y5 := hd.g 1 rfl; have ra0 := (f_v0.fr hw).eq a0; exact of_slice_sl_hi ra0 a1 Try.underlying22 Try.sizeOf9 e7) <|
     Obls.p (fun R' w' hw hs hd => of_move ((hs 0 rfl).trans h0)) <|
     Obls.p (fun R' w' hw hs hd => of_move ((hs 6 rfl).trans h6)) <|
     Obls.p (fun R' w' hw hs hd => by have a0 : R' 16 = v0 := hd.g 0 rfl; have a1 : R' 17 = .int .i64 y5 := hd.g 1 rfl; have ra0 := (f_v0.fr hw).eq a0; exact of_indexAddr ra0 a1 Try.underlying22 Try.sizeOf9 e8) <|
     Obls.p (fun R' w' hw hs hd => by have a0 : QRep eStr A w' (R' 18) (gtD p0 y5) := hd.g 0 rfl; exact (of_load a0.ptr Try.isAgg9 Try.sizeOf9)) <|
     Obls.p (fun R' w' hw hs hd => by have a0 : Rep (eSl eStr) A w' (R' 15) (subL p0 0 y5) := hd.g 0 rfl; have a1 : Rep eStr A w' (R' 19) (gtD p0 y5) := hd.g 1 rfl; exact of_call Try.call99 (M_spec_l3Count_ok (q10 rfl) (hA.fr hw.size) a0 a1)) <|
     Obls.p (fun R' w' hw hs hd => of_move ((hs 1 rfl).trans h1)) <|
     Obls.p (fun R' w' hw hs hd => of_move ((hs 0 rfl).trans h0)) <|
     Obls.p (fun R' w' hw hs hd => of_move ((hs 6 rfl).trans h6)) <|
     Obls.p (fun R' w' hw hs hd => by have a0 : R' 22 = v0 := hd.g 0 rfl; have a1 : R' 23 = .int .i64 y5 := hd.g 1 rfl; have ra0 := (f_v0.fr hw).eq a0; exact of_indexAddr ra0 a1 Try.underlying22 Try.sizeOf9 e11) <|
     Obls.p (fun R' w' hw hs hd => by have a0 : QRep eStr A w' (R' 24) (gtD p0 y5) := hd.g 0 rfl; exact (of_load a0.ptr Try.isAgg9 Try.sizeOf9)) <|
     Obls.p (fun R' w' hw hs hd => by have a0 : R' 21 = v1 := hd.g 0 rfl; have ra0 := (f_v1.fr hw).eq a0; have a1 : Rep eStr A w' (R' 25) (gtD p0 y5) := hd.g 1 rfl; exact of_call Try.call99 (M_spec_l3Count_ok (q13 rfl) (hA.fr hw.size) ra0 a1)) <|
     Obls.p (fun R' w' hw hs hd => by have a0 : R' 20 = .int .i64 x9 := hd.g 0 rfl; have a1 : R' 26 = .int .i64 x12 := hd.g 1 rfl; exact of_lss a0 a1) <|
     Obls.nil
   intro R w hw hs hF'
   replace h0 := (hs 0 rfl).trans h0
   replace h1 := (hs 1 rfl).trans h1
   replace h5 := (hs 5 rfl).trans h5
   replace h6 := (hs 6 rfl).trans h6
   have h27 : R 27 = .bool (decide (x9 < x12)) := hF' 14 _ _ rfl rfl rfl
   replace f_v0 := f_v0.fr hw
   replace f_v1 := f_v1.fr hw
   replace hA := hA.fr hw.size
   replace hF := hF.trans hw
   clear hs hF' hw
   refine seqR_nil ?_
   refine HT.cond (decide (x9 < x12)) h27 (fun c14 => ?_) (fun c14 => ?_)
   ·have hr := cnd_t c14 hr
    obtain ⟨e15, hr⟩ := ck_some hr
    refine HT.text (l := ⟨_, true, .raw (.int .i64 y4)⟩ :: ⟨_, true, .raw (.int .i64 (y4 + (1 : Int)))⟩ :: ⟨_, true, .raw (.int .i64 (y4 + (1 : Int)))⟩ :: []) (tl := []) (by kernel_rfl) (by kernel_rfl) (by kernel_rfl) ?_ ?_
    ·exact
      Obls.p (fun R' w' hw hs hd => of_move ((hs 5 rfl).trans h5)) <|
      Obls.p (fun R' w' hw hs hd => by have a0 : R' 28 = .int .i64 y4 := hd.g 0 rfl; exact of_add a0 rfl e15) <|
      Obls.p (fun R' w' hw hs hd => by have a0 : R' 29 = .int .i64 (y4 + (1 : Int)) := hd.g 0 rfl; exact of_assign a0) <|
      Obls.nil
    intro R w hw hs hF'
    replace h0 := (hs 0 rfl).trans h0
    replace h1 := (hs 1 rfl).trans h1
    replace h6 := (hs 6 rfl).trans h6
    have h5 : R 5 = .int .i64 (y4 + (1 : Int)) := hF' 2 _ _ rfl rfl rfl
    replace f_v0 := f_v0.fr hw
    replace f_v1 := f_v1.fr hw
    replace hA := hA.fr hw.size
    replace hF := hF.trans hw
    clear hs hF' hw
    refine seqR_nil ?_
    obtain ⟨e16, hr⟩ := ck_some hr
    refine HT.text (l := ⟨_, true, .raw (.int .i64 y5)⟩ :: ⟨_, true, .raw (.int .i64 (y5 + (1 : Int)))⟩ :: ⟨_, true, .raw (.int .i64 (y5 + (1 : Int)))⟩ :: []) (tl := []) (by kernel_rfl) (by kernel_rfl) (by kernel_rfl) ?_ ?_
    ·exact
      Obls.p (fun R' w' hw hs hd => of_move ((hs 6 rfl).trans h6)) <|
      Obls.p (fun R' w' hw hs hd => by have a0 : R' 11 = .int .i64 y5 := hd.g 0 rfl; exact of_add a0 rfl e16) <|
      Obls.p (fun R' w' hw hs hd => by have a0 : R' 12 = .int .i64 (y5 + (1 : Int)) := hd.g 0 rfl; exact of_assign a0) <|
      Obls.nil
    intro R w hw hs hF'
    replace h0 := (hs 0 rfl).trans h0
    replace h1 := (hs 1 rfl).trans h1
    replace h5 := (hs 5 rfl).trans h5
    have h6 : R 6 = .int .i64 (y5 + (1 : Int)) := hF' 2 _ _ rfl rfl rfl
    replace f_v0 := f_v0.fr hw
    replace f_v1 := f_v1.fr hw
    replace hA := hA.fr hw.size
    replace hF := hF.trans hw
    clear hs hF' hw
    refine seqR_nil ?_
    exact Exists.intro k (And.intro (Nat.lt_succ_self k) ⟨_, _, hr, hA, hF, h0, h1, h5, h6, f_v0, f_v1⟩)
   ·have hr := cnd_f c14 hr
    refine HT.skip ?_
    obtain ⟨e17, hr⟩ := ck_some hr
    refine HT.text (l := ⟨_, true, .raw (.int .i64 y5)⟩ :: ⟨_, true, .raw (.int .i64 (y5 + (1 : Int)))⟩ :: ⟨_, true, .raw (.int .i64 (y5 + (1 : Int)))⟩ :: []) (tl := []) (by kernel_rfl) (by kernel_rfl) (by kernel_rfl) ?_ ?_
    ·exact
      Obls.p (fun R' w' hw hs hd => of_move ((hs 6 rfl).trans h6)) <|
      Obls.p (fun R' w' hw hs hd => by have a0 : R' 11 = .int .i64 y5 := hd.g 0 rfl; exact of_add a0 rfl e17) <|
      Obls.p (fun R' w' hw hs hd => by have a0 : R' 12 = .int .i64 (y5 + (1 : Int)) := hd.g 0 rfl; exact of_assign a0) <|
      Obls.nil
    intro R w hw hs hF'
    replace h0 := (hs 0 rfl).trans h0
    replace h1 := (hs 1 rfl).trans h1
    replace h5 := (hs 5 rfl).trans h5
    have h6 : R 6 = .int .i64 (y5 + (1 : Int)) := hF' 2 _ _ rfl rfl rfl
    replace f_v0 := f_v0.fr hw
    replace f_v1 := f_v1.fr hw
    replace hA := hA.fr hw.size
    replace hF := hF.trans hw
    clear hs hF' hw
    refine seqR_nil ?_
    exact Exists.intro k (And.intro (Nat.lt_succ_self k) ⟨_, _, hr, hA, hF, h0, h1, h5, h6, f_v0, f_v1⟩)
  ·have hr := cnd_f c6 hr
   refine HT.exit ?_
   obtain rfl := Option.some.inj hr
   exact Exists.intro _ ⟨rfl, hA, hF, h5⟩
 rintro R w ⟨s3, es, hA, hF, h5⟩
 obtain rfl := es.symm
 refine HT.seq ?_
 refine HT.text (l := ⟨_, true, .raw (.int .i64 s3)⟩ :: ⟨_, true, .raw (.int .i64 s3)⟩ :: []) (tl := []) (by kernel_rfl) (by kernel_rfl) (by kernel_rfl) ?_ ?_
 ·exact
   Obls.p (fun R' w' hw hs hd => of_move ((hs 5 rfl).trans h5)) <|
   Obls.p (fun R' w' hw hs hd => by have a0 : R' 30 = .int .i64 s3 := hd.g 0 rfl; exact of_assign a0) <|
   Obls.nil
 intro R w hw hs hF'
 have h4 : R 4 = .int .i64 s3 := hF' 1 _ _ rfl rfl rfl
 replace hA := hA.fr hw.size
 replace hF := hF.trans hw
 clear hs hF' hw
 refine seqR_nil ?_
 refine HT.ret ?_
 obtain rfl := Option.some.inj hr
 exact ⟨.inr rfl, [R 4], ⟨rfl, trivial⟩, h4, hF⟩
def M_spec_MinCommonGrams (fu : Nat) (p0 : Int) (p1 : Int) (p2 : Int) (p3 : Int) : Option Int :=
 cl true (M_spec_l10Good fu p0 p1 p2 p3) fun x1 =>
 bif (!x1) then (
  some (-1 : Int)
 ) else (
  ck (i64B ((max p0 p1) - p2)) <|
  ck (i64B (((max p0 p1) - p2) + (1 : Int))) <|
  ck (i64B (p2 * p3)) <|
  ck (i64B ((((max p0 p1) - p2) + (1 : Int)) - (p2 * p3))) <|
  some (max (0 : Int) ((((max p0 p1) - p2) + (1 : Int)) - (p2 * p3)))
 )
theorem M_spec_MinCommonGrams_ok {fu : Nat} {A : Av} {p0 : Int} {p1 : Int} {p2 : Int} {p3 : Int} {r : Int} (hr : M_spec_MinCommonGrams fu p0 p1 p2 p3 = some r) {w : World} {v0 : Value} {v1 : Value} {v2 : Value} {v3 : Value} (hA : AvOK A w) (h0 : v0 = .int .i64 p0) (h1 : v1 = .int .i64 p1) (h2 : v2 = .int .i64 p2) (h3 : v3 = .int .i64 p3) :
  Calls Try.prog 58 #[v0, v1, v2, v3] w fun e w' => ∃ v, e = .returned v ∧ (v = .int .i64 r ∧ Fr w w') := by
 unfold M_spec_MinCommonGrams at hr
 obtain ⟨w0, hw0⟩ : ∃ w0, w0 = w := ⟨_, rfl⟩
 have hF : Fr w0 w := hw0 ▸ Fr.refl _
 rw [show Fr w = Fr w0 from hw0 ▸ rfl]
 clear hw0
 refine calls_of_HT2 [.tmp 8] Try.func58 Try.ntmps58 (by decide) rfl rfl (Nat.le_of_ble_eq_true rfl) ?_
 intro R hR
 replace h0 : R 0 = .int .i64 p0 := (hR 0 _ rfl).trans h0
 replace h1 : R 1 = .int .i64 p1 := (hR 1 _ rfl).trans h1
 replace h2 : R 2 = .int .i64 p2 := (hR 2 _ rfl).trans h2
 replace h3 : R 3 = .int .i64 p3 := (hR 3 _ rfl).trans h3
 clear hR
 refine HT.seq ?_
 refine HT.text (l := ⟨_, true, .raw (.int .i64 (0 : Int))⟩ :: []) (tl := []) (by kernel_rfl) (by kernel_rfl) (by kernel_rfl) ?_ ?_
 ·exact
   Obls.p (fun R' w' hw hs hd => of_assign rfl) <|
   Obls.nil
 intro R w hw hs hF'
 replace h0 := (hs 0 rfl).trans h0
 replace h1 := (hs 1 rfl).trans h1
 replace h2 := (hs 2 rfl).trans h2
 replace h3 := (hs 3 rfl).trans h3
 replace hA := hA.fr hw.size
 replace hF := hF.trans hw
 clear hs hF' hw
 refine seqR_nil ?_
 refine HT.seq ?_
 refine HT.seq ?_
 obtain ⟨x1, q2, hr⟩ := cl_some hr
 refine HT.text (l := ⟨_, true, .raw (.int .i64 p0)⟩ :: ⟨_, true, .raw (.int .i64 p1)⟩ :: ⟨_, true, .raw (.int .i64 p2)⟩ :: ⟨_, true, .raw (.int .i64 p3)⟩ :: ⟨_, true, .raw (.bool x1)⟩ :: ⟨_, true, .raw (.bool (!x1))⟩ :: []) (tl := []) (by kernel_rfl) (by kernel_rfl) (by kernel_rfl) ?_ ?_
 ·exact
   Obls.p (fun R' w' hw hs hd => of_move ((hs 0 rfl).trans h0)) <|
   Obls.p (fun R' w' hw hs hd => of_move ((hs 1 rfl).trans h1)) <|
   Obls.p (fun R' w' hw hs hd => of_move ((hs 2 rfl).trans h2)) <|
   Obls.p (fun R' w' hw hs hd => of_move ((hs 3 rfl).trans h3)) <|
   Obls.p (fun R' w' hw hs hd => by have a0 : R' 9 = .int .i64 p0 := hd.g 0 rfl; have a1 : R' 10 = .int .i64 p1 := hd.g 1 rfl; have a2 : R' 11 = .int .i64 p2 := hd.g 2 rfl; have a3 : R' 12 = .int .i64 p3 := hd.g 3 rfl; exact of_call Try.call55 (M_spec_l10Good_ok (q2 rfl) (hA.fr hw.size) a0 a1 a2 a3)) <|
   Obls.p (fun R' w' hw hs hd => by have a0 : R' 13 = .bool x1 := hd.g 0 rfl; exact of_not a0) <|
   Obls.nil
 intro R w hw hs hF'
 replace h0 := (hs 0 rfl).trans h0
 replace h1 := (hs 1 rfl).trans h1
 replace h2 := (hs 2 rfl).trans h2
 replace h3 := (hs 3 rfl).trans h3
 have h14 : R 14 = .bool (!x1) := hF' 5 _ _ rfl rfl rfl
 replace hA := hA.fr hw.size
 replace hF := hF.trans hw
 clear hs hF' hw
 refine seqR_nil ?_
 refine HT.cond (!x1) h14 (fun c3 => ?_) (fun c3 => ?_)
 ·have hr := cnd_t c3 hr
  refine HT.seq ?_
  refine HT.text (l := ⟨_, true, .raw (.int .i64 (-1 : Int))⟩ :: []) (tl := []) (by kernel_rfl) (by kernel_rfl) (by kernel_rfl) ?_ ?_
  ·exact
    Obls.p (fun R' w' hw hs hd => of_assign rfl) <|
    Obls.nil
  intro R w hw hs hF'
  have h8 : R 8 = .int .i64 (-1 : Int) := hF' 0 _ _ rfl rfl rfl
  replace hA := hA.fr hw.size
  replace hF := hF.trans hw
  clear hs hF' hw
  refine seqR_nil ?_
  refine HT.ret ?_
  obtain rfl := Option.some.inj hr
  exact ⟨.inr rfl, [R 8], ⟨rfl, trivial⟩, h8, hF⟩
 ·have hr := cnd_f c3 hr
  refine HT.skip ?_
  refine HT.seq ?_
  obtain ⟨e4, hr⟩ := ck_some hr
  obtain ⟨e5, hr⟩ := ck_some hr
  obtain ⟨e6, hr⟩ := ck_some hr
  obtain ⟨e7, hr⟩ := ck_some hr
  refine HT.text (l := ⟨_, true, .raw (.int .i64 p0)⟩ :: ⟨_, true, .raw (.int .i64 p1)⟩ :: ⟨_, true, .raw (.int .i64 (max p0 p1))⟩ :: ⟨_, true, .raw (.int .i64 p2)⟩ :: ⟨_, true, .raw (.int .i64 ((max p0 p1) - p2))⟩ :: ⟨_, true, .raw (.int .i64 (((max p0 p1) - p2) + (1 : Int)))⟩ :: ⟨_, true, .raw (.int .i64 p2)⟩ :: ⟨_, true, .raw (.int .i64 p3)⟩ :: ⟨_, true, .raw (.int .i64 (p2 * p3))⟩ :: ⟨_, true, .raw (.int .i64 ((((max p0 p1) - p2) + (1 : Int)) - (p2 * p3)))⟩ :: ⟨_, true, .raw (.int .i64 (max (0 : Int) ((((max p0 p1) - p2) + (1 : Int)) - (p2 * p3))))⟩ :: ⟨_, true, .raw (.int .i64 (max (0 : Int) ((((max p0 p1) - p2) + (1 : Int)) - (p2 * p3))))⟩ :: []) (tl := []) (by kernel_rfl) (by kernel_rfl) (by kernel_rfl) ?_ ?_
  ·exact
    Obls.p (fun R' w' hw hs hd => of_move ((hs 0 rfl).trans h0)) <|
    Obls.p (fun R' w' hw hs hd => of_move ((hs 1 rfl).trans h1)) <|
    Obls.p (fun R' w' hw hs hd => by have a0 : R' 15 = .int .i64 p0 := hd.g 0 rfl; have a1 : R' 16 = .int .i64 p1 := hd.g 1 rfl; exact of_max2 a0 a1) <|
    Obls.p (fun R' w' hw hs hd => of_move ((hs 2 rfl).trans h2)) <|
    Obls.p (fun R' w' hw hs hd => by have a0 : R' 17 = .int .i64 (max p0 p1) := hd.g 0 rfl; have a1 : R' 18 = .int .i64 p2 := hd.g 1 rfl; exact of_sub a0 a1 e4) <|
    Obls.p (fun R' w' hw hs hd => by have a0 : R' 19 = .int .i64 ((max p0 p1) - p2) := hd.g 0 rfl; exact of_add a0 rfl e5) <|
    Obls.p (fun R' w' hw hs hd => of_move ((hs 2 rfl).trans h2)) <|
    Obls.p (fun R' w' hw hs hd => of_move ((hs 3 rfl).trans h3)) <|
    Obls.p (fun R' w' hw hs hd => by have a0 : R' 21 = .int .i64 p2 := hd.g 0 rfl; have a1 : R' 22 = .int .i64 p3 := hd.g 1 rfl; exact of_mul a0 a1 e6) <|
    Obls.p (fun R' w' hw hs hd => by have a0 : R' 20 = .int .i64 (((max p0 p1) - p2) + (1 : Int)) := hd.g 0 rfl; have a1 : R' 23 = .int .i64 (p2 * p3) := hd.g 1 rfl; exact of_sub a0 a1 e7) <|
    Obls.p (fun R' w' hw hs hd => by have a1 : R' 24 = .int .i64 ((((max p0 p1) - p2) + (1 : Int)) - (p2 * p3)) := hd.g 0 rfl; exact of_max2 rfl a1) <|
    Obls.p (fun R' w' hw hs hd => by have a0 : R' 25 = .int .i64 (max (0 : Int) ((((max p0 p1) - p2) + (1 : Int)) - (p2 * p3))) := hd.g 0 rfl; exact of_assign a0) <|
    Obls.nil
  intro R w hw hs hF'
  have h8 : R 8 = .int .i64 (max (0 : Int) ((((max p0 p1) - p2) + (1 : Int)) - (p2 * p3))) := hF' 11 _ _ rfl rfl rfl
  replace hA := hA.fr hw.size
  replace hF := hF.trans hw
  clear hs hF' hw
  refine seqR_nil ?_
  refine HT.ret ?_
  obtain rfl := Option.some.inj hr
  exact ⟨.inr rfl, [R 8], ⟨rfl, trivial⟩, h8, hF⟩
def M_spec_GramFilter (fu : Nat) (p0 : List UInt8) (p1 : List UInt8) (p2 : Int) (p3 : Int) : Option Bool :=
 cl true (M_spec_l10Good fu (p0.length : Int) (p1.length : Int) p2 p3) fun x1 =>
 bif (!x1) then (
  some false
 ) else (
  cl true (M_spec_QGrams fu p0 p2) fun x4 =>
  cl true (M_spec_QGrams fu p1 p2) fun x6 =>
  cl true (M_spec_CommonGrams fu x4 x6) fun x8 =>
  cl true (M_spec_MinCommonGrams fu (p0.length : Int) (p1.length : Int) p2 p3) fun x10 =>
  some (decide (x10 ≤ x8))
 )
theorem M_spec_GramFilter_ok {fu : Nat} {A : Av} {p0 : List UInt8} {p1 : List UInt8} {p2 : Int} {p3 : Int} {r : Bool} (hr : M_spec_GramFilter fu p0 p1 p2 p3 = some r) {w : World} {v0 : Value} {v1 : Value} {v2 : Value} {v3 : Value} (hA : AvOK A w) (h0 : Rep eStr A w v0 p0) (h1 : Rep eStr A w v1 p1) (h2 : v2 = .int .i64 p2) (h3 : v3 = .int .i64 p3) :
  Calls Try.prog 18 #[v0, v1, v2, v3] w fun e w' => ∃ v, e = .returned v ∧ (v = .bool r ∧ Fr w w') := by
 unfold M_spec_GramFilter at hr
 obtain ⟨w0, hw0⟩ : ∃ w0, w0 = w := ⟨_, rfl⟩
 have hF : Fr w0 w := hw0 ▸ Fr.refl _
 rw [show Fr w = Fr w0 from hw0 ▸ rfl]
 clear hw0
 refine calls_of_HT2 [.tmp 8] Try.func18 Try.ntmps18 (by decide) rfl rfl (Nat.le_of_ble_eq_true rfl) ?_
 intro R hR
 have f_v0 := h0
 replace h0 : R 0 = v0 := hR 0 _ rfl
 have f_v1 := h1
 replace h1 : R 1 = v1 := hR 1 _ rfl
 replace h2 : R 2 = .int .i64 p2 := (hR 2 _ rfl).trans h2
 replace h3 : R 3 = .int .i64 p3 := (hR 3 _ rfl).trans h3
 clear hR
 refine HT.seq ?_
 refine HT.text (l := ⟨_, true, .raw (.bool false)⟩ :: []) (tl := []) (by kernel_rfl) (by kernel_rfl) (by kernel_rfl) ?_ ?_
 ·exact
   Obls.p (fun R' w' hw hs hd => of_assign rfl) <|
   Obls.nil
 intro R w hw hs hF'
 replace h0 := (hs 0 rfl).trans h0
 replace h1 := (hs 1 rfl).trans h1
 replace h2 := (hs 2 rfl).trans h2
 replace h3 := (hs 3 rfl).trans h3
 replace f_v0 := f_v0.fr hw
 replace f_v1 := f_v1.fr hw
 replace hA := hA.fr hw.size
 replace hF := hF.trans hw
 clear hs hF' hw
 refine seqR_nil ?_
 refine HT.seq ?_
 refine HT.seq ?_
 obtain ⟨x1, q2, hr⟩ := cl_some hr
 refine HT.text (l := ⟨_, true, .raw v0⟩ :: ⟨_, true, .raw (.int .i64 (p0.length : Int))⟩ :: ⟨_, true, .raw v1⟩ :: ⟨_, true, .raw (.int .i64 (p1.length : Int))⟩ :: ⟨_, true, .raw (.int .i64 p2)⟩ :: ⟨_, true, .raw (.int .i64 p3)⟩ :: ⟨_, true, .raw (.bool x1)⟩ :: ⟨_, true, .raw (.bool (!x1))⟩ :: []) (tl := []) (by kernel_rfl) (by kernel_rfl) (by kernel_rfl) ?_ ?_
 ·exact
   Obls.p (fun R' w' hw hs hd => of_move ((hs 0 rfl).trans h0)) <|
   Obls.p (fun R' w' hw hs hd => by have a0 : R' 9 = v0 := hd.g 0 rfl; have ra0 := (f_v0.fr hw).eq a0; exact of_len_str ra0 Try.underlying9) <|
   Obls.p (fun R' w' hw hs hd => of_move ((hs 1 rfl).trans h1)) <|
   Obls.p (fun R' w' hw hs hd => by have a0 : R' 11 = v1 := hd.g 0 rfl; have ra0 := (f_v1.fr hw).eq a0; exact of_len_str ra0 Try.underlying9) <|
   Obls.p (fun R' w' hw hs hd => of_move ((hs 2 rfl).trans h2)) <|
   Obls.p (fun R' w' hw hs hd => of_move ((hs 3 rfl).trans h3)) <|
   Obls.p (fun R' w' hw hs hd => by have a0 : R' 10 = .int .i64 (p0.length : Int) := hd.g 0 rfl; have a1 : R' 12 = .int .i64 (p1.length : Int) := hd.g 1 rfl; have a2 : R' 13 = .int .i64 p2 := hd.g 2 rfl; have a3 : R' 14 = .int .i64 p3 := hd.g 3 rfl; exact of_call Try.call55 (M_spec_l10Good_ok (q2 rfl) (hA.fr hw.size) a0 a1 a2 a3)) <|
   Obls.p (fun R' w' hw hs hd => by have a0 : R' 15 = .bool x1 := hd.g 0 rfl; exact of_not a0) <|
   Obls.nil
 intro R w hw hs hF'
 replace h0 := (hs 0 rfl).trans h0
 replace h1 := (hs 1 rfl).trans h1
 replace h2 := (hs 2 rfl).trans h2
 replace h3 := (hs 3 rfl).trans h3
 have h16 : R 16 = .bool (!x1) := hF' 7 _ _ rfl rfl rfl
 replace f_v0 := f_v0.fr hw
 replace f_v1 := f_v1.fr hw
 replace hA := hA.fr hw.size
 replace hF := hF.trans hw
 clear hs hF' hw
 refine seqR_nil ?_
 refine HT.cond (!x1) h16 (fun c3 => ?_) (fun c3 => ?_)
 ·have hr := cnd_t c3 hr
  refine HT.seq ?_
  refine HT.text (l := ⟨_, true, .raw (.bool false)⟩ :: []) (tl := []) (by kernel_rfl) (by kernel_rfl) (by kernel_rfl) ?_ ?_
  ·exact
    Obls.p (fun R' w' hw hs hd => of_assign rfl) <|
    Obls.nil
  intro R w hw hs hF'
  have h8 : R 8 = .bool false := hF' 0 _ _ rfl rfl rfl
  replace hA := hA.fr hw.size
  replace hF := hF.trans hw
  clear hs hF' hw
  refine seqR_nil ?_
  refine HT.ret ?_
  obtain rfl := Option.some.inj hr
  exact ⟨.inr rfl, [R 8], ⟨rfl, trivial⟩, h8, hF⟩
 ·have hr := cnd_f c3 hr
  refine HT.skip ?_
  refine HT.seq ?_
  obtain ⟨x4, q5, hr⟩ := cl_some hr
  obtain ⟨x6, q7, hr⟩ := cl_some hr
  obtain ⟨x8, q9, hr⟩ := cl_some hr
  obtain ⟨x10, q11, hr⟩ := cl_some hr
  refine HT.text (l := ⟨_, true, .raw v0⟩ :: ⟨_, true, .raw (.int .i64 p2)⟩ :: ⟨_, true, .rep (eSl eStr) A x4⟩ :: ⟨_, true, .raw v1⟩ :: ⟨_, true, .raw (.int .i64 p2)⟩ :: ⟨_, true, .rep (eSl eStr) A x6⟩ :: ⟨_, true, .raw (.int .i64 x8)⟩ :: ⟨_, true, .raw v0⟩ :: ⟨_, true, .raw (.int .i64 (p0.length : Int))⟩ :: ⟨_, true, .raw v1⟩ :: ⟨_, true, .raw (.int .i64 (p1.length : Int))⟩ :: ⟨_, true, .raw (.int .i64 p2)⟩ :: ⟨_, true, .raw (.int .i64 p3)⟩ :: ⟨_, true, .raw (.int .i64 x10)⟩ :: ⟨_, true, .raw (.bool (decide (x10 ≤ x8)))⟩ :: ⟨_, true, .raw (.bool (decide (x10 ≤ x8)))⟩ :: []) (tl := []) (by kernel_rfl) (by kernel_rfl) (by kernel_rfl) ?_ ?_
  ·exact
    Obls.p (fun R' w' hw hs hd => of_move ((hs 0 rfl).trans h0)) <|
    Obls.p (fun R' w' hw hs hd => of_move ((hs 2 rfl).trans h2)) <|
    Obls.p (fun R' w' hw hs hd => by have a0 : R' 17 = v0 := hd.g 0 rfl; have ra0 := (f_v0.fr hw).eq a0; have a1 : R' 18 = .int .i64 p2 := hd.g 1 rfl; exact of_call Try.call57 (M_spec_QGrams_ok (q5 rfl) (hA.fr hw.size) ra0 a1)) <|
    Obls.p (fun R' w' hw hs hd => of_move ((hs 1 rfl).trans h1)) <|
    Obls.p (fun R' w' hw hs hd => of_move ((hs 2 rfl).trans h2)) <|
    Obls.p (fun R' w' hw hs hd => by have a0 : R' 20 = v1 := hd.g 0 rfl; have ra0 := (f_v1.fr hw).eq a0; have a1 : R' 21 = .int .i64 p2 := hd.g 1 rfl; exact of_call Try.call57 (M_spec_QGrams_ok (q7 rfl) (hA.fr hw.size) ra0 a1)) <|
    Obls.p (fun R' w' hw hs hd => by have a0 : Rep (eSl eStr) A w' (R' 19) x4 := hd.g 0 rfl; have a1 : Rep (eSl eStr) A w' (R' 22) x6 := hd.g 1 rfl; exact of_call Try.call56 (M_spec_CommonGrams_ok (q9 rfl) (hA.fr hw.size) a0 a1)) <|
    Obls.p (fun R' w' hw hs hd => of_move ((hs 0 rfl).trans h0)) <|
    Obls.p (fun R' w' hw hs hd => by have a0 : R' 24 = v0 := hd.g 0 rfl; have ra0 := (f_v0.fr hw).eq a0; exact of_len_str ra0 Try.underlying9) <|
    Obls.p (fun R' w' hw hs hd => of_move ((hs 1 rfl).trans h1)) <|
    Obls.p (fun R' w' hw hs hd => by have a0 : R' 26 = v1 := hd.g 0 rfl; have ra0 := (f_v1.fr hw).eq a0; exact of_len_str ra0 Try.underlying9) <|
    Obls.p (fun R' w' hw hs hd => of_move ((hs 2 rfl).trans h2)) <|
    Obls.p (fun R' w' hw hs hd => of_move ((hs 3 rfl).trans h3)) <|
    Obls.p (fun R' w' hw hs hd => by have a0 : R' 25 = .int .i64 (p0.length : Int) := hd.g 0 rfl; have a1 : R' 27 = .int .i64 (p1.length : Int) := hd.g 1 rfl; have a2 : R' 28 = .int .i64 p2 := hd.g 2 rfl; have a3 : R' 29 = .int .i64 p3 := hd.g 3 rfl; exact of_call Try.call58 (M_spec_MinCommonGrams_ok (q11 rfl) (hA.fr hw.size) a0 a1 a2 a3)) <|
    Obls.p (fun R' w' hw hs hd => by have a0 : R' 23 = .int .i64 x8 := hd.g 0 rfl; have a1 : R' 30 = .int .i64 x10 := hd.g 1 rfl; exact of_geq a0 a1) <|
    Obls.p (fun R' w' hw hs hd => by have a0 : R' 31 = .bool (decide (x10 ≤ x8)) := hd.g 0 rfl; exact of_assign a0) <|
    Obls.nil
  intro R w hw hs hF'
  have h8 : R 8 = .bool (decide (x10 ≤ x8)) := hF' 15 _ _ rfl rfl rfl
  replace hA := hA.fr hw.size
  replace hF := hF.trans hw
  clear hs hF' hw
  refine seqR_nil ?_
  refine HT.ret ?_
  obtain rfl := Option.some.inj hr
  exact ⟨.inr rfl, [R 8], ⟨rfl, trivial⟩, h8, hF⟩
def M_impl_within (fu : Nat) (p0 : Int) (p1 : Int) (p2 : Int) : Option Bool :=
 bd ((decide (p1 ≤ p0)) && (decide (p0 ≤ p2))) fun x1 =>
 some x1
theorem M_impl_within_ok {fu : Nat} {A : Av} {p0 : Int} {p1 : Int} {p2 : Int} {r : Bool} (hr : M_impl_within fu p0 p1 p2 = some r) {w : World} {v0 : Value} {v1 : Value} {v2 : Value} (hA : AvOK A w) (h0 : v0 = .int .i64 p0) (h1 : v1 = .int .i64 p1) (h2 : v2 = .int .i64 p2) :
  Calls Try.prog 69 #[v0, v1, v2] w fun e w' => ∃ v, e = .returned v ∧ (v = .bool r ∧ Fr w w') := by
 unfold M_impl_within at hr
 obtain ⟨w0, hw0⟩ : ∃ w0, w0 = w := ⟨_, rfl⟩
 have hF : Fr w0 w := hw0 ▸ Fr.refl _
 rw [show Fr w = Fr w0 from hw0 ▸ rfl]
 clear hw0
 refine calls_of_HT2 [.tmp 6] Try.func69 Try.ntmps69 (by decide) rfl rfl (Nat.le_of_ble_eq_true rfl) ?_
 intro R hR
 replace h0 : R 0 = .int .i64 p0 := (hR 0 _ rfl).trans h0
 replace h1 : R 1 = .int .i64 p1 := (hR 1 _ rfl).trans h1
 replace h2 : R 2 = .int .i64 p2 := (hR 2 _ rfl).trans h2
 clear hR
 refine HT.seq ?_
 refine HT.text (l := ⟨_, true, .raw (.bool false)⟩ :: []) (tl := []) (by kernel_rfl) (by kernel_rfl) (by kernel_rfl) ?_ ?_
 ·exact
   Obls.p (fun R' w' hw hs hd => of_assign rfl) <|
   Obls.nil
 intro R w hw hs hF'
 replace h0 := (hs 0 rfl).trans h0
 replace h1 := (hs 1 rfl).trans h1
 replace h2 := (hs 2 rfl).trans h2
 replace hA := hA.fr hw.size
 replace hF := hF.trans hw
 clear hs hF' hw
 refine seqR_nil ?_
 refine HT.seq ?_
 obtain ⟨x1, q2, hr⟩ := bd_some hr
 refine HT.text (l := ⟨_, true, .raw (.int .i64 p0)⟩ :: ⟨_, true, .raw (.int .i64 p1)⟩ :: ⟨_, true, .raw (.bool (decide (p1 ≤ p0)))⟩ :: ⟨_, true, .raw (.bool (decide (p1 ≤ p0)))⟩ :: ⟨_, (true && ((decide (p1 ≤ p0)) == true)), .raw (.int .i64 p0)⟩ :: ⟨_, (true && ((decide (p1 ≤ p0)) == true)), .raw (.int .i64 p2)⟩ :: ⟨_, (true && ((decide (p1 ≤ p0)) == true)), .raw (.bool (decide (p0 ≤ p2)))⟩ :: ⟨_, true, .raw (.bool x1)⟩ :: ⟨_, true, .raw (.bool x1)⟩ :: []) (tl := []) (by kernel_rfl) (by kernel_rfl) (by kernel_rfl) ?_ ?_
 ·exact
   Obls.p (fun R' w' hw hs hd => of_move ((hs 0 rfl).trans h0)) <|
   Obls.p (fun R' w' hw hs hd => of_move ((hs 1 rfl).trans h1)) <|
   Obls.p (fun R' w' hw hs hd => by have a0 : R' 7 = .int .i64 p0 := hd.g 0 rfl; have a1 : R' 8 = .int .i64 p1 := hd.g 1 rfl; exact of_geq a0 a1) <|
   Obls.p (fun R' w' hw hs hd => by have a0 : R' 9 = .bool (decide (p1 ≤ p0)) := hd.g 0 rfl; exact of_move a0) <|
   Obls.cons (Obl.grd 3 true _ _ _ rfl rfl rfl rfl rfl (by kernel_rfl) fun hg R' w' hw hs hd => by have a0 : R' 0 = .int .i64 p0 := (hs 0 rfl).trans h0; exact of_move a0) <|
   Obls.cons (Obl.grd 3 true _ _ _ rfl rfl rfl rfl rfl (by kernel_rfl) fun hg R' w' hw hs hd => by have a0 : R' 2 = .int .i64 p2 := (hs 2 rfl).trans h2; exact of_move a0) <|
   Obls.cons (Obl.grd 3 true _ _ _ rfl rfl rfl rfl rfl (by kernel_rfl) fun hg R' w' hw hs hd => by have a0 : R' 11 = .int .i64 p0 := hd 0 _ _ _ rfl rfl rfl rfl hg; have a1 : R' 12 = .int .i64 p2 := hd 1 _ _ _ rfl rfl rfl rfl hg; exact of_leq a0 a1) <|
   Obls.p (fun R' w' hw hs hd => by have a0 : R' 10 = .bool (decide (p1 ≤ p0)) := hd.g 0 rfl; exact of_pick (decide (p1 ≤ p0)) a0 (fun hc => by have a1 : R' 13 = .bool (decide (p0 ≤ p2)) := hd 1 _ _ _ rfl rfl rfl rfl (g_and rfl (beq_of hc)); show _ = Value.bool x1; rw [q2, hc]; exact a1) (fun hc => by show _ = Value.bool x1; rw [q2, hc]; exact rfl)) <|
   Obls.p (fun R' w' hw hs hd => by have a0 : R' 14 = .bool x1 := hd.g 0 rfl; exact of_assign a0) <|
   Obls.nil
 intro R w hw hs hF'
 have h6 : R 6 = .bool x1 := hF' 8 _ _ rfl rfl rfl
 replace hA := hA.fr hw.size
 replace hF := hF.trans hw
 clear hs hF' hw
 refine seqR_nil ?_
 refine HT.ret ?_
 obtain rfl := Option.some.inj hr
 exact ⟨.inr rfl, [R 6], ⟨rfl, trivial⟩, h6, hF⟩
def M_impl_MinCommonGrams (fu : Nat) (p0 : Int) (p1 : Int) (p2 : Int) (p3 : Int) : Option Int :=
 cl true (M_impl_within fu p0 (0 : Int) (40 : Int)) fun x1 =>
 cl (true && ((!x1) == false)) (M_impl_within fu p1 (0 : Int) (40 : Int)) fun x3 =>
 bd ((!x1) || (!x3)) fun x5 =>
 cl (true && (x5 == false)) (M_impl_within fu p2 (1 : Int) (3 : Int)) fun x7 =>
 bd (x5 || (!x7)) fun x9 =>
 cl (true && (x9 == false)) (M_impl_within fu p3 (0 : Int) (40 : Int)) fun x11 =>
 bd (x9 || (!x11)) fun x13 =>
 bif x13 then (
  some (-1 : Int)
 ) else (
  ck (i64B ((max p0 p1) - p2)) <|
  ck (i64B (((max p0 p1) - p2) + (1 : Int))) <|
  ck (i64B (p2 * p3)) <|
  ck (i64B ((((max p0 p1) - p2) + (1 : Int)) - (p2 * p3))) <|
  some (max (0 : Int) ((((max p0 p1) - p2) + (1 : Int)) - (p2 * p3)))
 )
theorem M_impl_MinCommonGrams_ok {fu : Nat} {A : Av} {p0 : Int} {p1 : Int} {p2 : Int} {p3 : Int} {r : Int} (hr : M_impl_MinCommonGrams fu p0 p1 p2 p3 = some r) {w : World} {v0 : Value} {v1 : Value} {v2 : Value} {v3 : Value} (hA : AvOK A w) (h0 : v0 = .int .i64 p0) (h1 : v1 = .int .i64 p1) (h2 : v2 = .int .i64 p2) (h3 : v3 = .int .i64 p3) :
  Calls Try.prog 59 #[v0, v1, v2, v3] w fun e w' => ∃ v, e = .returned v ∧ (v = .int .i64 r ∧ Fr w w') := by
 unfold M_impl_MinCommonGrams at hr
 obtain ⟨w0, hw0⟩ : ∃ w0, w0 = w := ⟨_, rfl⟩
 have hF : Fr w0 w := hw0 ▸ Fr.refl _
 rw [show Fr w = Fr w0 from hw0 ▸ rfl]
 clear hw0
 refine calls_of_HT2 [.tmp 8] Try.func59 Try.ntmps59 (by decide) rfl rfl (Nat.le_of_ble_eq_true rfl) ?_
 intro R hR
 replace h0 : R 0 = .int .i64 p0 := (hR 0 _ rfl).trans h0
 replace h1 : R 1 = .int .i64 p1 := (hR 1 _ rfl).trans h1
 replace h2 : R 2 = .int .i64 p2 := (hR 2 _ rfl).trans h2
 replace h3 : R 3 = .int .i64 p3 := (hR 3 _ rfl).trans h3
 clear hR
 refine HT.seq ?_
 refine HT.text (l := ⟨_, true, .raw (.int .i64 (0 : Int))⟩ :: []) (tl := []) (by kernel_rfl) (by kernel_rfl) (by kernel_rfl) ?_ ?_
 ·exact
   Obls.p (fun R' w' hw hs hd => of_assign rfl) <|
   Obls.nil
 intro R w hw hs hF'
 replace h0 := (hs 0 rfl).trans h0
 replace h1 := (hs 1 rfl).trans h1
 replace h2 := (hs 2 rfl).trans h2
 replace h3 := (hs 3 rfl).trans h3
 replace hA := hA.fr hw.size
 replace hF := hF.trans hw
 clear hs hF' hw
 refine seqR_nil ?_
 refine HT.seq ?_
 refine HT.seq ?_
 obtain ⟨x1, q2, hr⟩ := cl_some hr
 obtain ⟨x3, q4, hr⟩ := cl_some hr
 obtain ⟨x5, q6, hr⟩ := bd_some hr
 obtain ⟨x7, q8, hr⟩ := cl_some hr
 obtain ⟨x9, q10, hr⟩ := bd_some hr
 obtain ⟨x11, q12, hr⟩ := cl_some hr
 obtain ⟨x13, q14, hr⟩ := bd_some hr
 refine HT.text (l := ⟨_, true, .raw (.int .i64 p0)⟩ :: ⟨_, true, .raw (.bool x1)⟩ :: ⟨_, true, .raw (.bool (!x1))⟩ :: ⟨_, true, .raw (.bool (!x1))⟩ :: ⟨_, (true && ((!x1) == false)), .raw (.int .i64 p1)⟩ :: ⟨_, (true && ((!x1) == false)), .raw (.bool x3)⟩ :: ⟨_, (true && ((!x1) == false)), .raw (.bool (!x3))⟩ :: ⟨_, true, .raw (.bool x5)⟩ :: ⟨_, true, .raw (.bool x5)⟩ :: ⟨_, (true && (x5 == false)), .raw (.int .i64 p2)⟩ :: ⟨_, (true && (x5 == false)), .raw (.bool x7)⟩ :: ⟨_, (true && (x5 == false)), .raw (.bool (!x7))⟩ :: ⟨_, true, .raw (.bool x9)⟩ :: ⟨_, true, .raw (.bool x9)⟩ :: ⟨_, (true && (x9 == false)), .raw (.int .i64 p3)⟩ :: ⟨_, (true && (x9 == false)), .raw (.bool x11)⟩ :: ⟨_, (true && (x9 == false)), .raw (.bool (!x11))⟩ :: ⟨_, true, .raw (.bool x13)⟩ :: []) (tl := []) (by kernel_rfl) (by kernel_rfl) (by kernel_rfl) ?_ ?_
 ·exact
   Obls.p (fun R' w' hw hs hd => of_move ((hs 0 rfl).trans h0)) <|
   Obls.p (fun R' w' hw hs hd => by have a0 : R' 9 = .int .i64 p0 := hd.g 0 rfl; exact of_call Try.call69 (M_impl_within_ok (q2 rfl) (hA.fr hw.size) a0 rfl rfl)) <|
   Obls.p (fun R' w' hw hs hd => by have a0 : R' 10 = .bool x1 := hd.g 0 rfl; exact of_not a0) <|
   Obls.p (fun R' w' hw hs hd => by have a0 : R' 11 = .bool (!x1) := hd.g 0 rfl; exact of_move a0) <|
   Obls.cons (Obl.grd 3 false _ _ _ rfl rfl rfl rfl rfl (by kernel_rfl) fun hg R' w' hw hs hd => by have a0 : R' 1 = .int .i64 p1 := (hs 1 rfl).trans h1; exact of_move a0) <|
   Obls.cons (Obl.grd 3 false _ _ _ rfl rfl rfl rfl rfl (by kernel_rfl) fun hg R' w' hw hs hd => by have a0 : R' 13 = .int .i64 p1 := hd 0 _ _ _ rfl rfl rfl rfl hg; exact of_call Try.call69 (M_impl_within_ok (q4 hg) (hA.fr hw.size) a0 rfl rfl)) <|
   Obls.cons (Obl.grd 3 false _ _ _ rfl rfl rfl rfl rfl (by kernel_rfl) fun hg R' w' hw hs hd => by have a0 : R' 14 = .bool x3 := hd 0 _ _ _ rfl rfl rfl rfl hg; exact of_not a0) <|
   Obls.p (fun R' w' hw hs hd => by have a0 : R' 12 = .bool (!x1) := hd.g 0 rfl; exact of_pick (!x1) a0 (fun hc => by show _ = Value.bool x5; rw [q6, hc]; exact rfl) (fun hc => by have a2 : R' 15 = .bool (!x3) := hd 1 _ _ _ rfl rfl rfl rfl (g_and rfl (beq_of hc)); show _ = Value.bool x5; rw [q6, hc]; exact a2)) <|
   Obls.p (fun R' w' hw hs hd => by have a0 : R' 16 = .bool x5 := hd.g 0 rfl; exact of_move a0) <|
   Obls.cons (Obl.grd 8 false _ _ _ rfl rfl rfl rfl rfl (by kernel_rfl) fun hg R' w' hw hs hd => by have a0 : R' 2 = .int .i64 p2 := (hs 2 rfl).trans h2; exact of_move a0) <|
   Obls.cons (Obl.grd 8 false _ _ _ rfl rfl rfl rfl rfl (by kernel_rfl) fun hg R' w' hw hs hd => by have a0 : R' 18 = .int .i64 p2 := hd 0 _ _ _ rfl rfl rfl rfl hg; exact of_call Try.call69 (M_impl_within_ok (q8 hg) (hA.fr hw.size) a0 rfl rfl)) <|
   Obls.cons (Obl.grd 8 false _ _ _ rfl rfl rfl rfl rfl (by kernel_rfl) fun hg R' w' hw hs hd => by have a0 : R' 19 = .bool x7 := hd 0 _ _ _ rfl rfl rfl rfl hg; exact of_not a0) <|
   Obls.p (fun R' w' hw hs hd => by have a0 : R' 17 = .bool x5 := hd.g 0 rfl; exact of_pick x5 a0 (fun hc => by show _ = Value.bool x9; rw [q10, hc]; exact rfl) (fun hc => by have a2 : R' 20 = .bool (!x7) := hd 1 _ _ _ rfl rfl rfl rfl (g_and rfl (beq_of hc)); show _ = Value.bool x9; rw [q10, hc]; exact a2)) <|
   Obls.p (fun R' w' hw hs hd => by have a0 : R' 21 = .bool x9 := hd.g 0 rfl; exact of_move a0) <|
   Obls.cons (Obl.grd 13 false _ _ _ rfl rfl rfl rfl rfl (by kernel_rfl) fun hg R' w' hw hs hd => by have a0 : R' 3 = .int .i64 p3 := (hs 3 rfl).trans h3; exact of_move a0) <|
   Obls.cons (Obl.grd 13 false _ _ _ rfl rfl rfl rfl rfl (by kernel_rfl) fun hg R' w' hw hs hd => by have a0 : R' 23 = .int .i64 p3 := hd 0 _ _ _ rfl rfl rfl rfl hg; exact of_call Try.call69 (M_impl_within_ok (q12 hg) (hA.fr hw.size) a0 rfl rfl)) <|
   Obls.cons (Obl.grd 13 false _ _ _ rfl rfl rfl rfl rfl (by kernel_rfl) fun hg R' w' hw hs hd => by have a0 : R' 24 = .bool x11 := hd 0 _ _ _ rfl rfl rfl rfl hg; exact of_not a0) <|
   Obls.p (fun R' w' hw hs hd => by have a0 : R' 22 = .bool x9 := hd.g 0 rfl; exact of_pick x9 a0 (fun hc => by show _ = Value.bool x13; rw [q14, hc]; exact rfl) (fun hc => by have a2 : R' 25 = .bool (!x11) := hd 1 _ _ _ rfl rfl rfl rfl (g_and rfl (beq_of hc)); show _ = Value.bool x13; rw [q14, hc]; exact a2)) <|
   Obls.nil
 intro R w hw hs hF'
 replace h0 := (hs 0 rfl).trans h0
 replace h1 := (hs 1 rfl).trans h1
 replace h2 := (hs 2 rfl).trans h2
 replace h3 := (hs 3 rfl).trans h3
 have h26 : R 26 = .bool x13 := hF' 17 _ _ rfl rfl rfl
 replace hA := hA.fr hw.size
 replace hF := hF.trans hw
 clear hs hF' hw
 refine seqR_nil ?_
 refine HT.cond x13 h26 (fun c15 => ?_) (fun c15 => ?_)
 ·have hr := cnd_t c15 hr
  refine HT.seq ?_
  refine HT.text (l := ⟨_, true, .raw (.int .i64 (-1 : Int))⟩ :: []) (tl := []) (by kernel_rfl) (by kernel_rfl) (by kernel_rfl) ?_ ?_
  ·exact
    Obls.p (fun R' w' hw hs hd => of_assign rfl) <|
    Obls.nil
  intro R w hw hs hF'
  have h8 : R 8 = .int .i64 (-1 : Int) := hF' 0 _ _ rfl rfl rfl
  replace hA := hA.fr hw.size
  replace hF := hF.trans hw
  clear hs hF' hw
  refine seqR_nil ?_
  refine HT.ret ?_
  obtain rfl := Option.some.inj hr
  exact ⟨.inr rfl, [R 8], ⟨rfl, trivial⟩, h8, hF⟩
 ·have hr := cnd_f c15 hr
  refine HT.skip ?_
  refine HT.seq ?_
  obtain ⟨e16, hr⟩ := ck_some hr
  obtain ⟨e17, hr⟩ := ck_some hr
  obtain ⟨e18, hr⟩ := ck_some hr
  obtain ⟨e19, hr⟩ := ck_some hr
  refine HT.text (l := ⟨_, true, .raw (.int .i64 p0)⟩ :: ⟨_, true, .raw (.int .i64 p1)⟩ :: ⟨_, true, .raw (.int .i64 (max p0 p1))⟩ :: ⟨_, true, .raw (.int .i64 p2)⟩ :: ⟨_, true, .raw (.int .i64 ((max p0 p1) - p2))⟩ :: ⟨_, true, .raw (.int .i64 (((max p0 p1) - p2) + (1 : Int)))⟩ :: ⟨_, true, .raw (.int .i64 p2)⟩ :: ⟨_, true, .raw (.int .i64 p3)⟩ :: ⟨_, true, .raw (.int .i64 (p2 * p3))⟩ :: ⟨_, true, .raw (.int .i64 ((((max p0 p1) - p2) + (1 : Int)) - (p2 * p3)))⟩ :: ⟨_, true, .raw (.int .i64 (max (0 : Int) ((((max p0 p1) - p2) + (1 : Int)) - (p2 * p3))))⟩ :: ⟨_, true, .raw (.int .i64 (max (0 : Int) ((((max p0 p1) - p2) + (1 : Int)) - (p2 * p3))))⟩ :: []) (tl := []) (by kernel_rfl) (by kernel_rfl) (by kernel_rfl) ?_ ?_
  ·exact
    Obls.p (fun R' w' hw hs hd => of_move ((hs 0 rfl).trans h0)) <|
    Obls.p (fun R' w' hw hs hd => of_move ((hs 1 rfl).trans h1)) <|
    Obls.p (fun R' w' hw hs hd => by have a0 : R' 27 = .int .i64 p0 := hd.g 0 rfl; have a1 : R' 28 = .int .i64 p1 := hd.g 1 rfl; exact of_max2 a0 a1) <|
    Obls.p (fun R' w' hw hs hd => of_move ((hs 2 rfl).trans h2)) <|
    Obls.p (fun R' w' hw hs hd => by have a0 : R' 29 = .int .i64 (max p0 p1) := hd.g 0 rfl; have a1 : R' 30 = .int .i64 p2 := hd.g 1 rfl; exact of_sub a0 a1 e16) <|
    Obls.p (fun R' w' hw hs hd => by have a0 : R' 31 = .int .i64 ((max p0 p1) - p2) := hd.g 0 rfl; exact of_add a0 rfl e17) <|
    Obls.p (fun R' w' hw hs hd => of_move ((hs 2 rfl).trans h2)) <|
    Obls.p (fun R' w' hw hs hd => of_move ((hs 3 rfl).trans h3)) <|
    Obls.p (fun R' w' hw hs hd => by have a0 : R' 33 = .int .i64 p2 := hd.g 0 rfl; have a1 : R' 34 = .int .i64 p3 := hd.g 1 rfl; exact of_mul a0 a1 e18) <|
    Obls.p (fun R' w' hw hs hd => by have a0 : R' 32 = .int .i64 (((max p0 p1) - p2) + (1 : Int)) := hd.g 0 rfl; have a1 : R' 35 = .int .i64 (p2 * p3) := hd.g 1 rfl; exact of_sub a0 a1 e19) <|
    Obls.p (fun R' w' hw hs hd => by have a1 : R' 36 = .int .i64 ((((max p0 p1) - p2) + (1 : Int)) - (p2 * p3)) := hd.g 0 rfl; exact of_max2 rfl a1) <|
    Obls.p (fun R' w' hw hs hd => by have a0 : R' 37 = .int .i64 (max (0 : Int) ((((max p0 p1) - p2) + (1 : Int)) - (p2 * p3))) := hd.g 0 rfl; exact of_assign a0) <|
    Obls.nil
  intro R w hw hs hF'
  have h8 : R 8 = .int .i64 (max (0 : Int) ((((max p0 p1) - p2) + (1 : Int)) - (p2 * p3))) := hF' 11 _ _ rfl rfl rfl
  replace hA := hA.fr hw.size
  replace hF := hF.trans hw
  clear hs hF' hw
  refine seqR_nil ?_
  refine HT.ret ?_
  obtain rfl := Option.some.inj hr
  exact ⟨.inr rfl, [R 8], ⟨rfl, trivial⟩, h8, hF⟩
def M_impl_QGrams_L0 (fu : Nat) (p0 : List UInt8) (p1 : Int) : Nat → Int → (List (List UInt8)) → Option (List (List UInt8))
 | 0, _, _ => none
 | k + 1, y9, y10 =>
  ck (i64B (y9 + p1)) <|
  bif (decide ((y9 + p1) ≤ (p0.length : Int))) then (
   ck (i64B (y9 + p1)) <|
   ck (subR y9 (y9 + p1) p0.length) <|
   ck (lenOK (y10.length + ([(subL p0 y9 (y9 + p1))] : List (List UInt8)).length)) <|
   ck (i64B (y9 + (1 : Int))) <|
   M_impl_QGrams_L0 fu p0 p1 k (y9 + (1 : Int)) (y10 ++ ([(subL p0 y9 (y9 + p1))] : List (List UInt8)))
  ) else (
   some y10
  )
def M_impl_QGrams (fu : Nat) (p0 : List UInt8) (p1 : Int) : Option (List (List UInt8)) :=
 cl true (M_impl_within fu p1 (1 : Int) (3 : Int)) fun x1 =>
 bif (!x1) then (
  some ([] : List (List UInt8))
 ) else (
  cl true (M_impl_QGrams_L0 fu p0 p1 fu (0 : Int) ([] : List (List UInt8))) fun s8 =>
  cl true (M_sortS fu s8) fun x18 =>
  some x18
 )
theorem M_impl_QGrams_ok {fu : Nat} {A0 : Av} {p0 : List UInt8} {p1 : Int} {r : List (List UInt8)} (hr : M_impl_QGrams fu p0 p1 = some r) {w : World} {v0 : Value} {v1 : Value} (hA : AvOK A0 w) (h0 : Rep eStr A0 w v0 p0) (h1 : v1 = .int .i64 p1) :
  Calls Try.prog 61 #[v0, v1] w fun e w' => ∃ v, e = .returned v ∧ ((Res.vec w.heap.size 9 eStr r).ok (addA A0 v) v w' ∧ Fr w w') := by
 unfold M_impl_QGrams at hr
 obtain ⟨w0, hw0⟩ : ∃ w0, w0 = w := ⟨_, rfl⟩
 have hF : Fr w0 w := hw0 ▸ Fr.refl _
 have hA0 : ∀ b o, A0 b o → b < w0.heap.size := fun b o h => hw0 ▸ hA b o h
 have hA00 : AvOK A0 w0 := hA0
 rw [show w.heap.size = w0.heap.size from hw0 ▸ rfl]
 rw [show Fr w = Fr w0 from hw0 ▸ rfl]
 clear hw0
 obtain ⟨A, hAe⟩ : ∃ A, A = A0 := ⟨_, rfl⟩
 have hAA : ∀ b o, A0 b o → A b o := fun b o h => hAe ▸ h
 replace hA : AvOK A w := hAe ▸ hA
 have hO : IniOK [] A w := IniOK.nil
 refine calls_of_HT2 [.tmp 4] Try.func61 Try.ntmps61 (by decide) rfl rfl (Nat.le_of_ble_eq_true rfl) ?_
 intro R hR
 have f_v0 : Rep eStr A w v0 p0 := hAe ▸ h0
 replace h0 : R 0 = v0 := hR 0 _ rfl
 replace h1 : R 1 = .int .i64 p1 := (hR 1 _ rfl).trans h1
 clear hR hAe
 refine HT.seq ?_
 refine HT.text (l := ⟨_, true, .any⟩ :: []) (tl := []) (by kernel_rfl) (by kernel_rfl) (by kernel_rfl) ?_ ?_
 ·exact
   Obls.p (fun R' w' hw hs hd => of_assign trivial) <|
   Obls.nil
 intro R w hw hs hF'
 replace h0 := (hs 0 rfl).trans h0
 replace h1 := (hs 1 rfl).trans h1
 replace f_v0 := f_v0.fr hw
 replace hO := hO.fr hw
 replace hA := hA.fr hw.size
 replace hF := hF.trans hw
 clear hs hF' hw
 refine seqR_nil ?_
 refine HT.seq ?_
 refine HT.seq ?_
 obtain ⟨x1, q2, hr⟩ := cl_some hr
 refine HT.text (l := ⟨_, true, .raw (.int .i64 p1)⟩ :: ⟨_, true, .raw (.bool x1)⟩ :: ⟨_, true, .raw (.bool (!x1))⟩ :: []) (tl := []) (by kernel_rfl) (by kernel_rfl) (by kernel_rfl) ?_ ?_
 ·exact
   Obls.p (fun R' w' hw hs hd => of_move ((hs 1 rfl).trans h1)) <|
   Obls.p (fun R' w' hw hs hd => by have a0 : R' 7 = .int .i64 p1 := hd.g 0 rfl; exact of_call Try.call69 (M_impl_within_ok (q2 rfl) (hA.fr hw.size) a0 rfl rfl)) <|
   Obls.p (fun R' w' hw hs hd => by have a0 : R' 8 = .bool x1 := hd.g 0 rfl; exact of_not a0) <|
   Obls.nil
 intro R w hw hs hF'
 replace h0 := (hs 0 rfl).trans h0
 replace h1 := (hs 1 rfl).trans h1
 have h9 : R 9 = .bool (!x1) := hF' 2 _ _ rfl rfl rfl
 replace f_v0 := f_v0.fr hw
 replace hO := hO.fr hw
 replace hA := hA.fr hw.size
 replace hF := hF.trans hw
 clear hs hF' hw
 refine seqR_nil ?_
 refine HT.cond (!x1) h9 (fun c3 => ?_) (fun c3 => ?_)
 ·have hr := cnd_t c3 hr
  refine HT.seq ?_
  refine HT.text (l := ⟨_, true, .raw (.slice none 0 0)⟩ :: []) (tl := []) (by kernel_rfl) (by kernel_rfl) (by kernel_rfl) ?_ ?_
  ·exact
    Obls.p (fun R' w' hw hs hd => of_assign rfl) <|
    Obls.nil
  intro R w hw hs hF'
  obtain ⟨u4, n_u4⟩ : ∃ u, u = Value.slice none 0 0 := ⟨_, rfl⟩
  have h4 : R 4 = u4 := (hF' 0 _ _ rfl rfl rfl).trans n_u4.symm
  replace hO := hO.fr hw
  replace hA := hA.fr hw.size
  replace hF := hF.trans hw
  clear hs hF' hw
  refine seqR_nil ?_
  replace hO := hO.nilcons (u := u4) n_u4 w0.heap.size 9 eStr
  refine HT.ret ?_
  obtain rfl := Option.some.inj hr
  exact ⟨.inr rfl, [R 4], ⟨rfl, trivial⟩, (own_post (hO.ok 0 _ rfl) hAA h4), hF⟩
 ·have hr := cnd_f c3 hr
  refine HT.skip ?_
  refine HT.seq ?_
  refine HT.text (l := ⟨_, true, .raw (.slice none 0 0)⟩ :: []) (tl := []) (by kernel_rfl) (by kernel_rfl) (by kernel_rfl) ?_ ?_
  ·exact
    Obls.p (fun R' w' hw hs hd => of_assign rfl) <|
    Obls.nil
  intro R w hw hs hF'
  replace h0 := (hs 0 rfl).trans h0
  replace h1 := (hs 1 rfl).trans h1
  obtain ⟨u5, n_u5⟩ : ∃ u, u = Value.slice none 0 0 := ⟨_, rfl⟩
  have h5 : R 5 = u5 := (hF' 0 _ _ rfl rfl rfl).trans n_u5.symm
  replace f_v0 := f_v0.fr hw
  replace hO := hO.fr hw
  replace hA := hA.fr hw.size
  replace hF := hF.trans hw
  clear hs hF' hw
  refine seqR_nil ?_
  replace hO := hO.nilcons (u := u5) n_u5 w0.heap.size 9 eStr
  refine HT.seq ?_
  refine HT.seq ?_
  refine HT.text (l := ⟨_, true, .raw (.int .i64 (0 : Int))⟩ :: []) (tl := []) (by kernel_rfl) (by kernel_rfl) (by kernel_rfl) ?_ ?_
  ·exact
    Obls.p (fun R' w' hw hs hd => of_assign rfl) <|
    Obls.nil
  intro R w hw hs hF'
  replace h0 := (hs 0 rfl).trans h0
  replace h1 := (hs 1 rfl).trans h1
  replace h5 := (hs 5 rfl).trans h5
  have h6 : R 6 = .int .i64 (0 : Int) := hF' 0 _ _ rfl rfl rfl
  replace f_v0 := f_v0.fr hw
  replace hO := hO.fr hw
  replace hA := hA.fr hw.size
  replace hF := hF.trans hw
  clear hs hF' hw
  refine seqR_nil ?_
  obtain ⟨rl6, q7, hr⟩ := cl_some hr
  replace q7 := q7 rfl
  refine HT.cut0 (fun R w => ∃ A : Av, ∃ (s8 : (List (List UInt8))) (uo_u5 : Value), rl6 = s8 ∧ AvOK A w ∧ Fr w0 w ∧ (∀ b o, A0 b o → A b o) ∧ IniOK [ob uo_u5 (.vec w0.heap.size 9 eStr s8)] A w ∧ R 5 = uo_u5) ?_ ?_
  ·refine HT.block ?_
   refine HT.loop (fun k R w => ∃ A : Av, ∃ (y9 : Int) (y10 : List (List UInt8)) (ul_u5 : Value), M_impl_QGrams_L0 fu p0 p1 k y9 y10 = some rl6 ∧ AvOK A w ∧ Fr w0 w ∧ (∀ b o, A0 b o → A b o) ∧ IniOK [ob ul_u5 (.vec w0.heap.size 9 eStr y10)] A w ∧ R 0 = v0 ∧ R 1 = .int .i64 p1 ∧ R 5 = ul_u5 ∧ R 6 = .int .i64 y9 ∧ Rep eStr A w v0 p0) fu ⟨_, _, _, u5, q7, hA, hF, hAA, hO, h0, h1, h5, h6, f_v0⟩ ?_
   have hr0 := hr; clear hr q7
   rintro k R w ⟨A, y9, y10, ul_u5, hr, hA, hF, hAA, hO, h0, h1, h5, h6, f_v0⟩
   rcases k with _ | k
   ·cases (show none = some _ from hr)
   rw [M_impl_QGrams_L0] at hr
   refine HT.seq ?_
   refine HT.seq ?_
   obtain ⟨e11, hr⟩ := ck_some hr
   refine HT.text (l := ⟨_, true, .raw (.int .i64 y9)⟩ :: ⟨_, true, .raw (.int .i64 p1)⟩ :: ⟨_, true, .raw (.int .i64 (y9 + p1))⟩ :: ⟨_, true, .raw v0⟩ :: ⟨_, true, .raw (.int .i64 (p0.length : Int))⟩ :: ⟨_, true, .raw (.bool (decide ((y9 + p1) ≤ (p0.length : Int))))⟩ :: []) (tl := []) (by kernel_rfl) (by kernel_rfl) (by kernel_rfl) ?_ ?_
   ·exact
     Obls.p (fun R' w' hw hs hd => of_move ((hs 6 rfl).trans h6)) <|
     Obls.p (fun R' w' hw hs hd => of_move ((hs 1 rfl).trans h1)) <|
     Obls.p (fun R' w' hw hs hd => by have a0 : R' 10 = .int .i64 y9 := hd.g 0 rfl; have a1 : R' 11 = .int .i64 p1 := hd.g 1 rfl; exact of_add a0 a1 e11) <|
     Obls.p (fun R' w' hw hs hd => of_move ((hs 0 rfl).trans h0)) <|
     Obls.p (fun R' w' hw hs hd => by have a0 : R' 13 = v0 := hd.g 0 rfl; have ra0 := (f_v0.fr hw).eq a0; exact of_len_str ra0 Try.underlying9) <|
     Obls.p (fun R' w' hw hs hd => by have a0 : R' 12 = .int .i64 (y9 + p1) := hd.g 0 rfl; have a1 : R' 14 = .int .i64 (p0.length : Int) := hd.g 1 rfl; exact of_leq a0 a1) <|
     Obls.nil
   intro R w hw hs hF'
   replace h0 := (hs 0 rfl).trans h0
   replace h1 := (hs 1 rfl).trans h1
   replace h5 := (hs 5 rfl).trans h5
   replace h6 := (hs 6 rfl).trans h6
   have h15 : R 15 = .bool (decide ((y9 + p1) ≤ (p0.length : Int))) := hF' 5 _ _ rfl rfl rfl
   replace f_v0 := f_v0.fr hw
   replace hO := hO.fr hw
   replace hA := hA.fr hw.size
   replace hF := hF.trans hw
   clear hs hF' hw
   refine seqR_nil ?_
   refine HT.cond (decide ((y9 + p1) ≤ (p0.length : Int))) h15 (fun c12 => ?_) (fun c12 => ?_)
   ·have hr := cnd_t c12 hr
    refine HT.skip ?_
    refine HT.seq ?_
    refine HT.block ?_
    obtain ⟨e13, hr⟩ := ck_some hr
    obtain ⟨e14, hr⟩ := ck_some hr
    obtain ⟨e15, hr⟩ := ck_some hr
    refine HT.textR [ob ul_u5 (.vec w0.heap.size 9 eStr y10)] (⟨_, true, [], none, true, fun A => .raw ul_u5⟩ :: ⟨_, true, [], none, true, fun A => .raw v0⟩ :: ⟨_, true, [], none, true, fun A => .raw (.int .i64 y9)⟩ :: ⟨_, true, [], none, true, fun A => .raw (.int .i64 y9)⟩ :: ⟨_, true, [], none, true, fun A => .raw (.int .i64 p1)⟩ :: ⟨_, true, [], none, true, fun A => .raw (.int .i64 (y9 + p1))⟩ :: ⟨_, true, [], none, true, fun A => .rep eStr A (subL p0 y9 (y9 + p1))⟩ :: ⟨_, true, [], none, true, fun A => .rep (eSl eStr) A ([(subL p0 y9 (y9 + p1))] : List (List UInt8))⟩ :: ⟨_, true, [0], some (.vec w0.heap.size 9 eStr (y10 ++ ([(subL p0 y9 (y9 + p1))] : List (List UInt8)))), true, fun A => .any⟩ :: ⟨_, true, [9], some (.vec w0.heap.size 9 eStr (y10 ++ ([(subL p0 y9 (y9 + p1))] : List (List UInt8)))), true, fun A => .any⟩ :: []) (by kernel_rfl) (by kernel_rfl) (Wf.mk' (by kernel_rfl) (UAll.cons ust_raw (UAll.cons ust_raw (UAll.cons ust_raw (UAll.cons ust_raw (UAll.cons ust_raw (UAll.cons ust_raw (UAll.cons ust_rep (UAll.cons ust_rep (UAll.cons ust_any (UAll.cons ust_any (UAll.nil))))))))))) (by kernel_rfl) (by kernel_rfl)) hO hA ?_ ?_
    ·exact
      OblsR.p (fun A' R' w' ho hd => of_move ((ho.old 5 rfl).trans h5)) <|
      OblsR.p (fun A' R' w' ho hd => of_move ((ho.old 0 rfl).trans h0)) <|
      OblsR.p (fun A' R' w' ho hd => of_move ((ho.old 6 rfl).trans h6)) <|
      OblsR.p (fun A' R' w' ho hd => of_move ((ho.old 6 rfl).trans h6)) <|
      OblsR.p (fun A' R' w' ho hd => of_move ((ho.old 1 rfl).trans h1)) <|
      OblsR.p (fun A' R' w' ho hd => by have a0 : R' 21 = .int .i64 y9 := hd.g 0 rfl; have a1 : R' 22 = .int .i64 p1 := hd.g 1 rfl; exact of_add a0 a1 e13) <|
      OblsR.p (fun A' R' w' ho hd => by have a0 : R' 19 = v0 := hd.g 0 rfl; have a1 : R' 20 = .int .i64 y9 := hd.g 1 rfl; have a2 : R' 23 = .int .i64 (y9 + p1) := hd.g 2 rfl; have ra0 := (f_v0.stp ho.stp).eq a0; exact of_slice_str ra0 a1 a2 Try.underlying9  e14) <|
      OblsR.p (fun A' R' w' ho hd => by have a0 : Rep eStr A' w' (R' 24) (subL p0 y9 (y9 + p1)) := hd.g 0 rfl; exact of_build [_] (E := eStr) ⟨a0, trivial⟩ Try.underlying22 Try.sizeOf9 Try.zeroValue9 rfl rfl rfl ho.av) <|
      OblsR.cons (OblR.took 0 _ _ rfl rfl rfl rfl rfl fun A' R' w' ho hd u hok hav hin hop hds => by have a0 : R' 18 = ul_u5 := hd.g 0 rfl; have a1 : Rep (eSl eStr) A' w' (R' 25) ([(subL p0 y9 (y9 + p1))] : List (List UInt8)) := hd.g 1 rfl; exact took_append (a0.trans (hin _ rfl).symm) hok hav (Nat.le_trans hF.size ho.ch.size) a1 Try.underlying22 el_9 e15) <|
      OblsR.cons (OblR.took 9 _ _ rfl rfl rfl rfl rfl fun A' R' w' ho hd u hok hav hin hop hds => by exact took_assign (hop _ _ rfl rfl rfl rfl).symm hok hav) <|
      OblsR.nil
    intro done ρ σ A R w hdn hI
    replace h0 : R 0 = v0 := (hI.reg rfl).trans h0
    replace h1 : R 1 = .int .i64 p1 := (hI.reg rfl).trans h1
    replace h6 : R 6 = .int .i64 y9 := (hI.reg rfl).trans h6
    obtain ⟨u16, e_u16⟩ : ∃ u, ρ 10 = u := ⟨_, rfl⟩
    have h5 : R 5 = u16 := (hI.opvR hdn 10 9 rfl rfl rfl rfl rfl).symm.trans e_u16
    replace f_v0 := f_v0.stp hI.stp
    replace hAA := hI.low' hAA hA0 (hO.ge (⟨rfl, trivial⟩))
    replace hF : Fr w0 w := hF.tr hI.ch (hO.ge (⟨rfl, trivial⟩))
    replace hO : IniOK [ob u16 (.vec w0.heap.size 9 eStr (y10 ++ ([(subL p0 y9 (y9 + p1))] : List (List UInt8))))] A w := hI.left hdn [(10, ob u16 (.vec w0.heap.size 9 eStr (y10 ++ ([(subL p0 y9 (y9 + p1))] : List (List UInt8)))))] ⟨rfl, rfl, e_u16, rfl, rfl, trivial⟩
    replace hA := hI.avok
    clear hI
    obtain ⟨e17, hr⟩ := ck_some hr
    refine HT.text (l := ⟨_, true, .raw (.int .i64 y9)⟩ :: ⟨_, true, .raw (.int .i64 (y9 + (1 : Int)))⟩ :: ⟨_, true, .raw (.int .i64 (y9 + (1 : Int)))⟩ :: []) (tl := []) (by kernel_rfl) (by kernel_rfl) (by kernel_rfl) ?_ ?_
    ·exact
      Obls.p (fun R' w' hw hs hd => of_move ((hs 6 rfl).trans h6)) <|
      Obls.p (fun R' w' hw hs hd => by have a0 : R' 16 = .int .i64 y9 := hd.g 0 rfl; exact of_add a0 rfl e17) <|
      Obls.p (fun R' w' hw hs hd => by have a0 : R' 17 = .int .i64 (y9 + (1 : Int)) := hd.g 0 rfl; exact of_assign a0) <|
      Obls.nil
    intro R w hw hs hF'
    replace h0 := (hs 0 rfl).trans h0
    replace h1 := (hs 1 rfl).trans h1
    replace h5 := (hs 5 rfl).trans h5
    have h6 : R 6 = .int .i64 (y9 + (1 : Int)) := hF' 2 _ _ rfl rfl rfl
    replace f_v0 := f_v0.fr hw
    replace hO := hO.fr hw
    replace hA := hA.fr hw.size
    replace hF := hF.trans hw
    clear hs hF' hw
    refine seqR_nil ?_
    exact Exists.intro k (And.intro (Nat.lt_succ_self k) ⟨_, _, _, u16, hr, hA, hF, hAA, hO, h0, h1, h5, h6, f_v0⟩)
   ·have hr := cnd_f c12 hr
    refine HT.exit ?_
    obtain rfl := Option.some.inj hr
    exact Exists.intro _ ⟨_, ul_u5, rfl, hA, hF, hAA, hO, h5⟩
  rintro R w ⟨A, s8, uo_u5, es, hA, hF, hAA, hO, h5⟩
  obtain rfl := es.symm
  refine HT.seq ?_
  obtain ⟨x18, q19, hr⟩ := cl_some hr
  refine HT.textR [ob uo_u5 (.vec w0.heap.size 9 eStr s8)] (⟨_, true, [], none, true, fun A => .raw uo_u5⟩ :: ⟨_, true, [0], some (.vec w0.heap.size 9 eStr x18), false, fun A => .any⟩ :: []) (by kernel_rfl) (by kernel_rfl) (Wf.mk' (by kernel_rfl) (UAll.cons ust_raw (UAll.cons ust_any (UAll.nil))) (by kernel_rfl) (by kernel_rfl)) hO hA ?_ ?_
  ·exact
    OblsR.p (fun A' R' w' ho hd => of_move ((ho.old 5 rfl).trans h5)) <|
    OblsR.cons (OblR.took 0 _ _ rfl rfl rfl rfl rfl fun A' R' w' ho hd u hok hav hin hop hds => by have a0 : R' 27 = uo_u5 := hd.g 0 rfl; have hu0 : evalR R' (.tmp 27) = u := a0.trans (hin _ rfl).symm; exact took_call Try.call83 hav (fun _ _ _ _ _ h => h) (by simp only [List.map, hu0]; exact Calls.mono (M_sortS_ok (q19 rfl) (ho.av.sub _) (fun b o h => h.2) (Vec.flat hok (fun _ _ _ _ _ h => h))) (fun _ _ ⟨v, h1, h2, h3, h4⟩ => ⟨v, h1, trivial, h3, h4⟩))) <|
    OblsR.nil
  intro done ρ σ A R w hdn hI
  replace h5 : R 5 = uo_u5 := (hI.reg rfl).trans h5
  have z20 := hI.inivR 0 rfl
  have z21 := (hI.opnR hdn 2 1 rfl rfl rfl rfl rfl).trans z20
  replace hAA := hI.low' hAA hA0 (hO.ge (⟨rfl, trivial⟩))
  replace hF : Fr w0 w := hF.tr hI.ch (hO.ge (⟨rfl, trivial⟩))
  replace hO : IniOK [ob uo_u5 (.vec w0.heap.size 9 eStr x18)] A w := hI.left hdn [(2, ob uo_u5 (.vec w0.heap.size 9 eStr x18))] ⟨rfl, rfl, z21, rfl, rfl, trivial⟩
  replace hA := hI.avok
  clear hI
  refine HT.seq ?_
  refine HT.text (l := ⟨_, true, .raw uo_u5⟩ :: ⟨_, true, .raw uo_u5⟩ :: []) (tl := []) (by kernel_rfl) (by kernel_rfl) (by kernel_rfl) ?_ ?_
  ·exact
    Obls.p (fun R' w' hw hs hd => of_move ((hs 5 rfl).trans h5)) <|
    Obls.p (fun R' w' hw hs hd => by have a0 : R' 29 = uo_u5 := hd.g 0 rfl; exact of_assign a0) <|
    Obls.nil
  intro R w hw hs hF'
  have h4 : R 4 = uo_u5 := hF' 1 _ _ rfl rfl rfl
  replace hO := hO.fr hw
  replace hA := hA.fr hw.size
  replace hF := hF.trans hw
  clear hs hF' hw
  refine seqR_nil ?_
  refine HT.ret ?_
  obtain rfl := Option.some.inj hr
  exact ⟨.inr rfl, [R 4], ⟨rfl, trivial⟩, (own_post (hO.ok 0 _ rfl) hAA h4), hF⟩
theorem M_impl_QGrams_okR {fu : Nat} {A0 : Av} {p0 : List UInt8} {p1 : Int} {r : List (List UInt8)} (hr : M_impl_QGrams fu p0 p1 = some r) {w : World} {v0 : Value} {v1 : Value} (hA : AvOK A0 w) (h0 : Rep eStr A0 w v0 p0) (h1 : v1 = .int .i64 p1) :
  Calls Try.prog 61 #[v0, v1] w fun e w' => ∃ v, e = .returned v ∧ (Rep (eSl eStr) A0 w' v r ∧ Fr w w') := by
 refine Calls.mono (M_impl_QGrams_ok hr hA h0 h1) ?_
 rintro e w' ⟨v, he, hv, hf⟩
 exact ⟨v, he, vec_rep hv (fun b o h => .inl h) hA, hf⟩
def M_slices_Clone_string_string (fu : Nat) (p0 : List (List UInt8)) : Option (List (List UInt8)) :=
 ck (lenOK (([] : List (List UInt8)).length + p0.length)) <|
 some (([] : List (List UInt8)) ++ p0)
theorem M_slices_Clone_string_string_ok {fu : Nat} {A0 : Av} {p0 : List (List UInt8)} {r : List (List UInt8)} (hr : M_slices_Clone_string_string fu p0 = some r) {w : World} {v0 : Value} (hA : AvOK A0 w) (h0 : Rep (eSl eStr) A0 w v0 p0) :
  Calls Try.prog 73 #[v0] w fun e w' => ∃ v, e = .returned v ∧ ((Res.vec w.heap.size 9 eStr r).ok (addA A0 v) v w' ∧ Fr w w') := by
 unfold M_slices_Clone_string_string at hr
 obtain ⟨w0, hw0⟩ : ∃ w0, w0 = w := ⟨_, rfl⟩
 have hF : Fr w0 w := hw0 ▸ Fr.refl _
 have hA0 : ∀ b o, A0 b o → b < w0.heap.size := fun b o h => hw0 ▸ hA b o h
 have hA00 : AvOK A0 w0 := hA0
 rw [show w.heap.size = w0.heap.size from hw0 ▸ rfl]
 rw [show Fr w = Fr w0 from hw0 ▸ rfl]
 clear hw0
 obtain ⟨A, hAe⟩ : ∃ A, A = A0 := ⟨_, rfl⟩
 have hAA : ∀ b o, A0 b o → A b o := fun b o h => hAe ▸ h
 replace hA : AvOK A w := hAe ▸ hA
 have hO : IniOK [] A w := IniOK.nil
 refine calls_of_HT2 [.tmp 2] Try.func73 Try.ntmps73 (by decide) rfl rfl (Nat.le_of_ble_eq_true rfl) ?_
 intro R hR
 have f_v0 : Rep (eSl eStr) A w v0 p0 := hAe ▸ h0
 replace h0 : R 0 = v0 := hR 0 _ rfl
 clear hR hAe
 refine HT.seq ?_
 refine HT.text (l := ⟨_, true, .any⟩ :: []) (tl := []) (by kernel_rfl) (by kernel_rfl) (by kernel_rfl) ?_ ?_
 ·exact
   Obls.p (fun R' w' hw hs hd => of_assign trivial) <|
   Obls.nil
 intro R w hw hs hF'
 replace h0 := (hs 0 rfl).trans h0
 replace f_v0 := f_v0.fr hw
 replace hO := hO.fr hw
 replace hA := hA.fr hw.size
 replace hF := hF.trans hw
 clear hs hF' hw
 refine seqR_nil ?_
 refine HT.seq ?_
 refine HT.seq ?_
 refine HT.text (l := ⟨_, true, .raw v0⟩ :: ⟨_, true, .raw (.bool (isNilV v0))⟩ :: []) (tl := []) (by kernel_rfl) (by kernel_rfl) (by kernel_rfl) ?_ ?_
 ·exact
   Obls.p (fun R' w' hw hs hd => of_move ((hs 0 rfl).trans h0)) <|
   Obls.p (fun R' w' hw hs hd => by have a0 : R' 3 = v0 := hd.g 0 rfl; have ra0 := f_v0.fr hw; exact of_nil_eql a0 ra0 rfl Try.underlying22) <|
   Obls.nil
 intro R w hw hs hF'
 replace h0 := (hs 0 rfl).trans h0
 have h4 : R 4 = .bool (isNilV v0) := hF' 1 _ _ rfl rfl rfl
 replace f_v0 := f_v0.fr hw
 replace hO := hO.fr hw
 replace hA := hA.fr hw.size
 replace hF := hF.trans hw
 clear hs hF' hw
 refine seqR_nil ?_
 refine HT.cond (isNilV v0) h4 (fun c1 => ?_) (fun c1 => ?_)
 ·obtain rfl := nil_of_rep f_v0 c1
  refine HT.seq ?_
  refine HT.text (l := ⟨_, true, .raw (.slice none 0 0)⟩ :: []) (tl := []) (by kernel_rfl) (by kernel_rfl) (by kernel_rfl) ?_ ?_
  ·exact
    Obls.p (fun R' w' hw hs hd => of_assign rfl) <|
    Obls.nil
  intro R w hw hs hF'
  obtain ⟨u2, n_u2⟩ : ∃ u, u = Value.slice none 0 0 := ⟨_, rfl⟩
  have h2 : R 2 = u2 := (hF' 0 _ _ rfl rfl rfl).trans n_u2.symm
  replace hO := hO.fr hw
  replace hA := hA.fr hw.size
  replace hF := hF.trans hw
  clear hs hF' hw
  refine seqR_nil ?_
  replace hO := hO.nilcons (u := u2) n_u2 w0.heap.size 9 eStr
  refine HT.ret ?_
  replace hr : some ([] : List (List UInt8)) = some r := hr
  obtain rfl := Option.some.inj hr
  exact ⟨.inr rfl, [R 2], ⟨rfl, trivial⟩, (own_post (hO.ok 0 _ rfl) hAA h2), hF⟩
 ·skip
  refine HT.skip ?_
  refine HT.seq ?_
  obtain ⟨e3, hr⟩ := ck_some hr
  refine HT.textR [] (⟨_, true, [], some (.vec w0.heap.size 9 eStr ([] : List (List UInt8))), true, fun A => .any⟩ :: ⟨_, true, [], none, true, fun A => .raw v0⟩ :: ⟨_, true, [0], some (.vec w0.heap.size 9 eStr (([] : List (List UInt8)) ++ p0)), true, fun A => .any⟩ :: ⟨_, true, [2], some (.vec w0.heap.size 9 eStr (([] : List (List UInt8)) ++ p0)), true, fun A => .any⟩ :: []) (by kernel_rfl) (by kernel_rfl) (Wf.mk' (by kernel_rfl) (UAll.cons ust_any (UAll.cons ust_raw (UAll.cons ust_any (UAll.cons ust_any (UAll.nil))))) (by kernel_rfl) (by kernel_rfl)) hO hA ?_ ?_
  ·exact
    OblsR.cons (OblR.made _ rfl rfl rfl rfl fun A' R' w' ho hd => by exact made_build [] (E := eStr) trivial Try.underlying22 Try.sizeOf9 Try.zeroValue9 rfl rfl rfl (Nat.le_trans hF.size ho.ch.size)) <|
    OblsR.p (fun A' R' w' ho hd => of_move ((ho.old 0 rfl).trans h0)) <|
    OblsR.cons (OblR.took 0 _ _ rfl rfl rfl rfl rfl fun A' R' w' ho hd u hok hav hin hop hds => by have a1 : R' 6 = v0 := hd.g 1 rfl; have ra1 := (f_v0.stp ho.stp).eq a1; exact took_append (hop _ _ rfl rfl rfl rfl).symm hok hav (Nat.le_trans hF.size ho.ch.size) ra1 Try.underlying22 el_9 e3) <|
    OblsR.cons (OblR.took 2 _ _ rfl rfl rfl rfl rfl fun A' R' w' ho hd u hok hav hin hop hds => by exact took_assign (hop _ _ rfl rfl rfl rfl).symm hok hav) <|
    OblsR.nil
  intro done ρ σ A R w hdn hI
  obtain ⟨u4, e_u4⟩ : ∃ u, ρ 3 = u := ⟨_, rfl⟩
  have h2 : R 2 = u4 := (hI.opvR hdn 3 3 rfl rfl rfl rfl rfl).symm.trans e_u4
  replace hAA := hI.low' hAA hA0 (hO.ge (trivial))
  replace hF : Fr w0 w := hF.tr hI.ch (hO.ge (trivial))
  replace hO : IniOK [ob u4 (.vec w0.heap.size 9 eStr (([] : List (List UInt8)) ++ p0))] A w := hI.left hdn [(3, ob u4 (.vec w0.heap.size 9 eStr (([] : List (List UInt8)) ++ p0)))] ⟨rfl, rfl, e_u4, rfl, rfl, trivial⟩
  replace hA := hI.avok
  clear hI
  refine HT.ret ?_
  obtain rfl := Option.some.inj hr
  exact ⟨.inr rfl, [R 2], ⟨rfl, trivial⟩, (own_post (hO.ok 0 _ rfl) hAA h2), hF⟩
theorem M_slices_Clone_string_string_okR {fu : Nat} {A0 : Av} {p0 : List (List UInt8)} {r : List (List UInt8)} (hr : M_slices_Clone_string_string fu p0 = some r) {w : World} {v0 : Value} (hA : AvOK A0 w) (h0 : Rep (eSl eStr) A0 w v0 p0) :
  Calls Try.prog 73 #[v0] w fun e w' => ∃ v, e = .returned v ∧ (Rep (eSl eStr) A0 w' v r ∧ Fr w w') := by
 refine Calls.mono (M_slices_Clone_string_string_ok hr hA h0) ?_
 rintro e w' ⟨v, he, hv, hf⟩
 exact ⟨v, he, vec_rep hv (fun b o h => .inl h) hA, hf⟩
def M_impl_CommonGrams_L0 (fu : Nat) : Nat → (List (List UInt8)) → (List (List UInt8)) → Int → Option Int
 | 0, _, _, _ => none
 | k + 1, y20, y21, y22 =>
  bd ((decide ((0 : Int) < (y20.length : Int))) && (decide ((0 : Int) < (y21.length : Int)))) fun x23 =>
  bif x23 then (
   ck (inR (0 : Int) y20.length) <|
   ck (inR (0 : Int) y21.length) <|
   bif (bLt (gtD y20 (0 : Int)) (gtD y21 (0 : Int))) then (
    ck (subR (1 : Int) (y20.length : Int) y20.length) <|
    M_impl_CommonGrams_L0 fu k (subL y20 (1 : Int) (y20.length : Int)) y21 y22
   ) else (
    ck (inR (0 : Int) y21.length) <|
    ck (inR (0 : Int) y20.length) <|
    bif (bLt (gtD y21 (0 : Int)) (gtD y20 (0 : Int))) then (
     ck (subR (1 : Int) (y21.length : Int) y21.length) <|
     M_impl_CommonGrams_L0 fu k y20 (subL y21 (1 : Int) (y21.length : Int)) y22
    ) else (
     ck (subR (1 : Int) (y20.length : Int) y20.length) <|
     ck (subR (1 : Int) (y21.length : Int) y21.length) <|
     ck (i64B (y22 + (1 : Int))) <|
     M_impl_CommonGrams_L0 fu k (subL y20 (1 : Int) (y20.length : Int)) (subL y21 (1 : Int) (y21.length : Int)) (y22 + (1 : Int))
    )
   )
  ) else (
   some y22
  )
def M_impl_CommonGrams (fu : Nat) (p0 : List (List UInt8)) (p1 : List (List UInt8)) : Option Int :=
 cl true (M_slices_Clone_string_string fu p0) fun x1 =>
 cl true (M_slices_Clone_string_string fu p1) fun x3 =>
 cl true (M_sortS fu x1) fun x7 =>
 cl true (M_sortS fu x3) fun x12 =>
 cl true (M_impl_CommonGrams_L0 fu fu x7 x12 (0 : Int)) fun s19 =>
 some s19
theorem M_impl_CommonGrams_ok {fu : Nat} {A0 : Av} {p0 : List (List UInt8)} {p1 : List (List UInt8)} {r : Int} (hr : M_impl_CommonGrams fu p0 p1 = some r) {w : World} {v0 : Value} {v1 : Value} (hA : AvOK A0 w) (h0 : Rep (eSl eStr) A0 w v0 p0) (h1 : Rep (eSl eStr) A0 w v1 p1) :
  Calls Try.prog 60 #[v0, v1] w fun e w' => ∃ v, e = .returned v ∧ (v = .int .i64 r ∧ Fr w w') := by
 unfold M_impl_CommonGrams at hr
 obtain ⟨w0, hw0⟩ : ∃ w0, w0 = w := ⟨_, rfl⟩
 have hF : Fr w0 w := hw0 ▸ Fr.refl _
 have hA0 : ∀ b o, A0 b o → b < w0.heap.size := fun b o h => hw0 ▸ hA b o h
 have hA00 : AvOK A0 w0 := hA0
 rw [show Fr w = Fr w0 from hw0 ▸ rfl]
 clear hw0
 obtain ⟨A, hAe⟩ : ∃ A, A = A0 := ⟨_, rfl⟩
 have hAA : ∀ b o, A0 b o → A b o := fun b o h => hAe ▸ h
 replace hA : AvOK A w := hAe ▸ hA
 have hO : IniOK [] A w := IniOK.nil
 refine calls_of_HT2 [.tmp 4] Try.func60 Try.ntmps60 (by decide) rfl rfl (Nat.le_of_ble_eq_true rfl) ?_
 intro R hR
 have f_v0 : Rep (eSl eStr) A w v0 p0 := hAe ▸ h0
 replace h0 : R 0 = v0 := hR 0 _ rfl
 have f_v1 : Rep (eSl eStr) A w v1 p1 := hAe ▸ h1
 replace h1 : R 1 = v1 := hR 1 _ rfl
 clear hR hAe
 refine HT.seq ?_
 refine HT.text (l := ⟨_, true, .raw (.int .i64 (0 : Int))⟩ :: []) (tl := []) (by kernel_rfl) (by kernel_rfl) (by kernel_rfl) ?_ ?_
 ·exact
   Obls.p (fun R' w' hw hs hd => of_assign rfl) <|
   Obls.nil
 intro R w hw hs hF'
 replace h0 := (hs 0 rfl).trans h0
 replace h1 := (hs 1 rfl).trans h1
 replace f_v0 := f_v0.fr hw
 replace f_v1 := f_v1.fr hw
 replace hO := hO.fr hw
 replace hA := hA.fr hw.size
 replace hF := hF.trans hw
 clear hs hF' hw
 refine seqR_nil ?_
 refine HT.seq ?_
 obtain ⟨x1, q2, hr⟩ := cl_some hr
 obtain ⟨x3, q4, hr⟩ := cl_some hr
 refine HT.textR [] (⟨_, true, [], none, true, fun A => .raw v0⟩ :: ⟨_, true, [], some (.vec w0.heap.size 9 eStr x1), true, fun A => .any⟩ :: ⟨_, true, [], none, true, fun A => .raw v1⟩ :: ⟨_, true, [], some (.vec w0.heap.size 9 eStr x3), true, fun A => .any⟩ :: ⟨_, true, [1], some (.vec w0.heap.size 9 eStr x1), true, fun A => .any⟩ :: ⟨_, true, [3], some (.vec w0.heap.size 9 eStr x3), true, fun A => .any⟩ :: []) (by kernel_rfl) (by kernel_rfl) (Wf.mk' (by kernel_rfl) (UAll.cons ust_raw (UAll.cons ust_any (UAll.cons ust_raw (UAll.cons ust_any (UAll.cons ust_any (UAll.cons ust_any (UAll.nil))))))) (by kernel_rfl) (by kernel_rfl)) hO hA ?_ ?_
 ·exact
   OblsR.p (fun A' R' w' ho hd => of_move ((ho.old 0 rfl).trans h0)) <|
   OblsR.cons (OblR.made _ rfl rfl rfl rfl fun A' R' w' ho hd => by have a0 : R' 8 = v0 := hd.g 0 rfl; have ra0 := (f_v0.stp ho.stp).eq a0; exact made_call Try.call73 (M_slices_Clone_string_string_ok (q2 rfl) ho.av ra0) (Nat.le_trans hF.size ho.ch.size)) <|
   OblsR.p (fun A' R' w' ho hd => of_move ((ho.old 1 rfl).trans h1)) <|
   OblsR.cons (OblR.made _ rfl rfl rfl rfl fun A' R' w' ho hd => by have a0 : R' 10 = v1 := hd.g 0 rfl; have ra0 := (f_v1.stp ho.stp).eq a0; exact made_call Try.call73 (M_slices_Clone_string_string_ok (q4 rfl) ho.av ra0) (Nat.le_trans hF.size ho.ch.size)) <|
   OblsR.cons (OblR.took 1 _ _ rfl rfl rfl rfl rfl fun A' R' w' ho hd u hok hav hin hop hds => by exact took_assign (hop _ _ rfl rfl rfl rfl).symm hok hav) <|
   OblsR.cons (OblR.took 3 _ _ rfl rfl rfl rfl rfl fun A' R' w' ho hd u hok hav hin hop hds => by exact took_assign (hop _ _ rfl rfl rfl rfl).symm hok hav) <|
   OblsR.nil
 intro done ρ σ A R w hdn hI
 obtain ⟨u5, e_u5⟩ : ∃ u, ρ 4 = u := ⟨_, rfl⟩
 have h5 : R 5 = u5 := (hI.opvR hdn 4 4 rfl rfl rfl rfl rfl).symm.trans e_u5
 obtain ⟨u6, e_u6⟩ : ∃ u, ρ 5 = u := ⟨_, rfl⟩
 have h6 : R 6 = u6 := (hI.opvR hdn 5 5 rfl rfl rfl rfl rfl).symm.trans e_u6
 replace hAA := hI.low' hAA hA0 (hO.ge (trivial))
 replace hF : Fr w0 w := hF.tr hI.ch (hO.ge (trivial))
 replace hO : IniOK [ob u5 (.vec w0.heap.size 9 eStr x1), ob u6 (.vec w0.heap.size 9 eStr x3)] A w := hI.left hdn [(4, ob u5 (.vec w0.heap.size 9 eStr x1)), (5, ob u6 (.vec w0.heap.size 9 eStr x3))] ⟨rfl, rfl, e_u5, rfl, rfl, ⟨rfl, rfl, e_u6, rfl, rfl, trivial⟩⟩
 replace hA := hI.avok
 clear hI
 refine HT.seq ?_
 obtain ⟨x7, q8, hr⟩ := cl_some hr
 refine HT.textR [ob u5 (.vec w0.heap.size 9 eStr x1), ob u6 (.vec w0.heap.size 9 eStr x3)] (⟨_, true, [], none, true, fun A => .raw u5⟩ :: ⟨_, true, [0], some (.vec w0.heap.size 9 eStr x7), false, fun A => .any⟩ :: []) (by kernel_rfl) (by kernel_rfl) (Wf.mk' (by kernel_rfl) (UAll.cons ust_raw (UAll.cons ust_any (UAll.nil))) (by kernel_rfl) (by kernel_rfl)) hO hA ?_ ?_
 ·exact
   OblsR.p (fun A' R' w' ho hd => of_move ((ho.old 5 rfl).trans h5)) <|
   OblsR.cons (OblR.took 0 _ _ rfl rfl rfl rfl rfl fun A' R' w' ho hd u hok hav hin hop hds => by have a0 : R' 12 = u5 := hd.g 0 rfl; have hu0 : evalR R' (.tmp 12) = u := a0.trans (hin _ rfl).symm; exact took_call Try.call83 hav (fun _ _ _ _ _ h => h) (by simp only [List.map, hu0]; exact Calls.mono (M_sortS_ok (q8 rfl) (ho.av.sub _) (fun b o h => h.2) (Vec.flat hok (fun _ _ _ _ _ h => h))) (fun _ _ ⟨v, h1, h2, h3, h4⟩ => ⟨v, h1, trivial, h3, h4⟩))) <|
   OblsR.nil
 intro done ρ σ A R w hdn hI
 replace h5 : R 5 = u5 := (hI.reg rfl).trans h5
 replace h6 : R 6 = u6 := (hI.reg rfl).trans h6
 have z9 := hI.inivR 0 rfl
 have z10 := (hI.opnR hdn 3 1 rfl rfl rfl rfl rfl).trans z9
 have z11 := hI.inivR 1 rfl
 replace hAA := hI.low' hAA hA0 (hO.ge (⟨rfl, ⟨rfl, trivial⟩⟩))
 replace hF : Fr w0 w := hF.tr hI.ch (hO.ge (⟨rfl, ⟨rfl, trivial⟩⟩))
 replace hO : IniOK [ob u5 (.vec w0.heap.size 9 eStr x7), ob u6 (.vec w0.heap.size 9 eStr x3)] A w := hI.left hdn [(3, ob u5 (.vec w0.heap.size 9 eStr x7)), (1, ob u6 (.vec w0.heap.size 9 eStr x3))] ⟨rfl, rfl, z10, rfl, rfl, ⟨rfl, rfl, z11, rfl, rfl, trivial⟩⟩
 replace hA := hI.avok
 clear hI
 refine HT.seq ?_
 obtain ⟨x12, q13, hr⟩ := cl_some hr
 refine HT.textR [ob u5 (.vec w0.heap.size 9 eStr x7), ob u6 (.vec w0.heap.size 9 eStr x3)] (⟨_, true, [], none, true, fun A => .raw u6⟩ :: ⟨_, true, [1], some (.vec w0.heap.size 9 eStr x12), false, fun A => .any⟩ :: []) (by kernel_rfl) (by kernel_rfl) (Wf.mk' (by kernel_rfl) (UAll.cons ust_raw (UAll.cons ust_any (UAll.nil))) (by kernel_rfl) (by kernel_rfl)) hO hA ?_ ?_
 ·exact
   OblsR.p (fun A' R' w' ho hd => of_move ((ho.old 6 rfl).trans h6)) <|
   OblsR.cons (OblR.took 1 _ _ rfl rfl rfl rfl rfl fun A' R' w' ho hd u hok hav hin hop hds => by have a0 : R' 14 = u6 := hd.g 0 rfl; have hu0 : evalR R' (.tmp 14) = u := a0.trans (hin _ rfl).symm; exact took_call Try.call83 hav (fun _ _ _ _ _ h => h) (by simp only [List.map, hu0]; exact Calls.mono (M_sortS_ok (q13 rfl) (ho.av.sub _) (fun b o h => h.2) (Vec.flat hok (fun _ _ _ _ _ h => h))) (fun _ _ ⟨v, h1, h2, h3, h4⟩ => ⟨v, h1, trivial, h3, h4⟩))) <|
   OblsR.nil
 intro done ρ σ A R w hdn hI
 replace h5 : R 5 = u5 := (hI.reg rfl).trans h5
 replace h6 : R 6 = u6 := (hI.reg rfl).trans h6
 have z14 := hI.inivR 0 rfl
 have z15 := hI.inivR 1 rfl
 have z16 := (hI.opnR hdn 3 1 rfl rfl rfl rfl rfl).trans z15
 replace hAA := hI.low' hAA hA0 (hO.ge (⟨rfl, ⟨rfl, trivial⟩⟩))
 replace hF : Fr w0 w := hF.tr hI.ch (hO.ge (⟨rfl, ⟨rfl, trivial⟩⟩))
 replace hO : IniOK [ob u5 (.vec w0.heap.size 9 eStr x7), ob u6 (.vec w0.heap.size 9 eStr x12)] A w := hI.left hdn [(0, ob u5 (.vec w0.heap.size 9 eStr x7)), (3, ob u6 (.vec w0.heap.size 9 eStr x12))] ⟨rfl, rfl, z14, rfl, rfl, ⟨rfl, rfl, z16, rfl, rfl, trivial⟩⟩
 replace hA := hI.avok
 clear hI
 refine HT.seq ?_
 refine HT.text (l := ⟨_, true, .raw (.int .i64 (0 : Int))⟩ :: []) (tl := []) (by kernel_rfl) (by kernel_rfl) (by kernel_rfl) ?_ ?_
 ·exact
   Obls.p (fun R' w' hw hs hd => of_assign rfl) <|
   Obls.nil
 intro R w hw hs hF'
 replace h5 := (hs 5 rfl).trans h5
 replace h6 := (hs 6 rfl).trans h6
 have h7 : R 7 = .int .i64 (0 : Int) := hF' 0 _ _ rfl rfl rfl
 replace hO := hO.fr hw
 replace hA := hA.fr hw.size
 replace hF := hF.trans hw
 clear hs hF' hw
 refine seqR_nil ?_
 replace hO : IniOK [ob u5 (.vec w0.heap.size 9 eStr x7), ob u6 (.vec w0.heap.size 9 eStr x12)] A w := hO.sub [(0, ob u5 (.vec w0.heap.size 9 eStr x7)), (1, ob u6 (.vec w0.heap.size 9 eStr x12))] ⟨rfl, rfl, ⟨rfl, rfl, trivial⟩⟩
 obtain ⟨A, hle, hAA, hA, hO, f_u5⟩ := hO.freeze hA hAA hA0
 clear hle
 replace hO : IniOK [ob u6 (.vec w0.heap.size 9 eStr x12)] A w := hO.sub [(0, ob u6 (.vec w0.heap.size 9 eStr x12))] ⟨rfl, rfl, trivial⟩
 obtain ⟨A, hle, hAA, hA, hO, f_u6⟩ := hO.freeze hA hAA hA0
 replace f_u5 := f_u5.less hle
 clear hle
 obtain ⟨rl17, q18, hr⟩ := cl_some hr
 replace q18 := q18 rfl
 refine HT.cut (fun R w => ∃ A : Av, ∃ (s19 : Int), rl17 = s19 ∧ AvOK A w ∧ Fr w0 w ∧ (∀ b o, A0 b o → A b o) ∧ IniOK [] A w ∧ R 7 = .int .i64 s19) ?_ ?_
 ·refine HT.block ?_
  refine HT.loop (fun k R w => ∃ A : Av, ∃ (y20 : List (List UInt8)) (y21 : List (List UInt8)) (y22 : Int) (wl_5 : Value) (wl_6 : Value), M_impl_CommonGrams_L0 fu k y20 y21 y22 = some rl17 ∧ AvOK A w ∧ Fr w0 w ∧ (∀ b o, A0 b o → A b o) ∧ IniOK [] A w ∧ R 5 = wl_5 ∧ R 6 = wl_6 ∧ R 7 = .int .i64 y22 ∧ Rep (eSl eStr) A w wl_5 y20 ∧ Rep (eSl eStr) A w wl_6 y21) fu ⟨_, _, _, _, u5, u6, q18, hA, hF, hAA, hO, h5, h6, h7, f_u5, f_u6⟩ ?_
  have hr0 := hr; clear hr q18
  rintro k R w ⟨A, y20, y21, y22, wl_5, wl_6, hr, hA, hF, hAA, hO, h5, h6, h7, f_wl_5, f_wl_6⟩
  rcases k with _ | k
  ·cases (show none = some _ from hr)
  rw [M_impl_CommonGrams_L0] at hr
  refine HT.seq ?_
  refine HT.seq ?_
  obtain ⟨x23, q24, hr⟩ := bd_some hr
  refine HT.text (l := ⟨_, true, .raw wl_5⟩ :: ⟨_, true, .raw (.int .i64 (y20.length : Int))⟩ :: ⟨_, true, .raw (.bool (decide ((0 : Int) < (y20.length : Int))))⟩ :: ⟨_, true, .raw (.bool (decide ((0 : Int) < (y20.length : Int))))⟩ :: ⟨_, (true && ((decide ((0 : Int) < (y20.length : Int))) == true)), .raw wl_6⟩ :: ⟨_, (true && ((decide ((0 : Int) < (y20.length : Int))) == true)), .raw (.int .i64 (y21.length : Int))⟩ :: ⟨_, (true && ((decide ((0 : Int) < (y20.length : Int))) == true)), .raw (.bool (decide ((0 : Int) < (y21.length : Int))))⟩ :: ⟨_, true, .raw (.bool x23)⟩ :: []) (tl := []) (by kernel_rfl) (by kernel_rfl) (by kernel_rfl) ?_ ?_
  ·exact
    Obls.p (fun R' w' hw hs hd => of_move ((hs 5 rfl).trans h5)) <|
    Obls.p (fun R' w' hw hs hd => by have a0 : R' 16 = wl_5 := hd.g 0 rfl; have ra0 := (f_wl_5.fr hw).eq a0; exact of_len_sl (aT := #[]) ra0 Try.underlying22) <|
    Obls.p (fun R' w' hw hs hd => by have a0 : R' 17 = .int .i64 (y20.length : Int) := hd.g 0 rfl; exact of_gtr a0 rfl) <|
    Obls.p (fun R' w' hw hs hd => by have a0 : R' 18 = .bool (decide ((0 : Int) < (y20.length : Int))) := hd.g 0 rfl; exact of_move a0) <|
    Obls.cons (Obl.grd 3 true _ _ _ rfl rfl rfl rfl rfl (by kernel_rfl) fun hg R' w' hw hs hd => by have a0 : R' 6 = wl_6 := (hs 6 rfl).trans h6; exact of_move a0) <|
    Obls.cons (Obl.grd 3 true _ _ _ rfl rfl rfl rfl rfl (by kernel_rfl) fun hg R' w' hw hs hd => by have a0 : R' 20 = wl_6 := hd 0 _ _ _ rfl rfl rfl rfl hg; have ra0 := (f_wl_6.fr hw).eq a0; exact of_len_sl (aT := #[]) ra0 Try.underlying22) <|
    Obls.cons (Obl.grd 3 true _ _ _ rfl rfl rfl rfl rfl (by kernel_rfl) fun hg R' w' hw hs hd => by have a0 : R' 21 = .int .i64 (y21.length : Int) := hd 0 _ _ _ rfl rfl rfl rfl hg; exact of_gtr a0 rfl) <|
    Obls.p (fun R' w' hw hs hd => by have a0 : R' 19 = .bool (decide ((0 : Int) < (y20.length : Int))) := hd.g 0 rfl; exact of_pick (decide ((0 : Int) < (y20.length : Int))) a0 (fun hc => by have a1 : R' 22 = .bool (decide ((0 : Int) < (y21.length : Int))) := hd 1 _ _ _ rfl rfl rfl rfl (g_and rfl (beq_of hc)); show _ = Value.bool x23; rw [q24, hc]; exact a1) (fun hc => by show _ = Value.bool x23; rw [q24, hc]; exact rfl)) <|
    Obls.nil
  intro R w hw hs hF'
  replace h5 := (hs 5 rfl).trans h5
  replace h6 := (hs 6 rfl).trans h6
  replace h7 := (hs 7 rfl).trans h7
  have h23 : R 23 = .bool x23 := hF' 7 _ _ rfl rfl rfl
  replace f_wl_5 := f_wl_5.fr hw
  replace f_wl_6 := f_wl_6.fr hw
  replace hO := hO.fr hw
  replace hA := hA.fr hw.size
  replace hF := hF.trans hw
  clear hs hF' hw
  refine seqR_nil ?_
  refine HT.cond x23 h23 (fun c25 => ?_) (fun c25 => ?_)
  ·have hr := cnd_t c25 hr
   refine HT.skip ?_
   refine HT.block ?_
   refine HT.block ?_
   refine HT.seq ?_
   obtain ⟨e26, hr⟩ := ck_some hr
   obtain ⟨e27, hr⟩ := ck_some hr
   refine HT.draw (by kernel_rfl) (l := ⟨_, true, .raw wl_5⟩ :: ⟨_, true, .qtr eStr A (gtD y20 (0 : Int))⟩ :: ⟨_, true, .rep eStr A (gtD y20 (0 : Int))⟩ :: ⟨_, true, .raw wl_6⟩ :: ⟨_, true, .qtr eStr A (gtD y21 (0 : Int))⟩ :: ⟨_, true, .rep eStr A (gtD y21 (0 : Int))⟩ :: ⟨_, true, .raw (.bool (bLt (gtD y20 (0 : Int)) (gtD y21 (0 : Int))))⟩ :: ⟨_, true, .raw (.bool (bLt (gtD y20 (0 : Int)) (gtD y21 (0 : Int))))⟩ :: []) (tl := []) (by kernel_rfl) (by kernel_rfl) (by kernel_rfl) (by kernel_rfl) ?_ ?_
   ·exact
     Obls.p (fun R' w' hw hs hd => of_move ((hs 5 rfl).trans h5)) <|
     Obls.p (fun R' w' hw hs hd => by have a0 : R' 31 = wl_5 := hd.g 0 rfl; have ra0 := (f_wl_5.fr hw).eq a0; exact of_indexAddr ra0 rfl Try.underlying22 Try.sizeOf9 e26) <|
     Obls.p (fun R' w' hw hs hd => by have a0 : QRep eStr A w' (R' 32) (gtD y20 (0 : Int)) := hd.g 0 rfl; exact (of_load a0.ptr Try.isAgg9 Try.sizeOf9)) <|
     Obls.p (fun R' w' hw hs hd => of_move ((hs 6 rfl).trans h6)) <|
     Obls.p (fun R' w' hw hs hd => by have a0 : R' 34 = wl_6 := hd.g 0 rfl; have ra0 := (f_wl_6.fr hw).eq a0; exact of_indexAddr ra0 rfl Try.underlying22 Try.sizeOf9 e27) <|
     Obls.p (fun R' w' hw hs hd => by have a0 : QRep eStr A w' (R' 35) (gtD y21 (0 : Int)) := hd.g 0 rfl; exact (of_load a0.ptr Try.isAgg9 Try.sizeOf9)) <|
     Obls.p (fun R' w' hw hs hd => by have a0 : Rep eStr A w' (R' 33) (gtD y20 (0 : Int)) := hd.g 0 rfl; have a1 : Rep eStr A w' (R' 36) (gtD y21 (0 : Int)) := hd.g 1 rfl; exact of_slss a0 a1) <|
     Obls.p (fun R' w' hw hs hd => by have a0 : R' 37 = .bool (bLt (gtD y20 (0 : Int)) (gtD y21 (0 : Int))) := hd.g 0 rfl; exact of_assign a0) <|
     Obls.nil
   intro R w hw hs hF'
   replace h5 := (hs 5 rfl).trans h5
   replace h6 := (hs 6 rfl).trans h6
   replace h7 := (hs 7 rfl).trans h7
   have h30 : R 30 = .bool (bLt (gtD y20 (0 : Int)) (gtD y21 (0 : Int))) := hF' 7 _ _ rfl rfl rfl
   replace f_wl_5 := f_wl_5.fr hw
   replace f_wl_6 := f_wl_6.fr hw
   replace hO := hO.fr hw
   replace hA := hA.fr hw.size
   replace hF := hF.trans hw
   clear hs hF' hw
   refine seqR_nil ?_
   refine HT.cond (bLt (gtD y20 (0 : Int)) (gtD y21 (0 : Int))) h30 (fun c28 => ?_) (fun c28 => ?_)
   ·have hr := cnd_t c28 hr
    obtain ⟨e29, hr⟩ := ck_some hr
    refine HT.text (l := ⟨_, true, .raw wl_5⟩ :: ⟨_, true, .rep (eSl eStr) A (subL y20 (1 : Int) (y20.length : Int))⟩ :: ⟨_, true, .rep (eSl eStr) A (subL y20 (1 : Int) (y20.length : Int))⟩ :: []) (tl := []) (by kernel_rfl) (by kernel_rfl) (by kernel_rfl) ?_ ?_
    ·exact
      Obls.p (fun R' w' hw hs hd => of_move ((hs 5 rfl).trans h5)) <|
      Obls.p (fun R' w' hw hs hd => by have a0 : R' 38 = wl_5 := hd.g 0 rfl; have ra0 := (f_wl_5.fr hw).eq a0; exact of_slice_sl_lo ra0 rfl Try.underlying22 Try.sizeOf9 e29) <|
      Obls.p (fun R' w' hw hs hd => by have a0 : Rep (eSl eStr) A w' (R' 39) (subL y20 (1 : Int) (y20.length : Int)) := hd.g 0 rfl; exact of_assign a0) <|
      Obls.nil
    intro R w hw hs hF'
    replace h6 := (hs 6 rfl).trans h6
    replace h7 := (hs 7 rfl).trans h7
    obtain ⟨u30, h5, f_u30⟩ : ∃ u, R 5 = u ∧ Rep (eSl eStr) A w u (subL y20 (1 : Int) (y20.length : Int)) := ⟨_, rfl, hF' 2 _ _ rfl rfl rfl⟩
    replace f_wl_6 := f_wl_6.fr hw
    replace hO := hO.fr hw
    replace hA := hA.fr hw.size
    replace hF := hF.trans hw
    clear hs hF' hw
    refine seqR_nil ?_
    exact Exists.intro k (And.intro (Nat.lt_succ_self k) ⟨_, _, _, _, u30, wl_6, hr, hA, hF, hAA, hO, h5, h6, h7, f_u30, f_wl_6⟩)
   ·have hr := cnd_f c28 hr
    refine HT.seq ?_
    obtain ⟨e31, hr⟩ := ck_some hr
    obtain ⟨e32, hr⟩ := ck_some hr
    refine HT.draw (by kernel_rfl) (l := ⟨_, true, .raw wl_6⟩ :: ⟨_, true, .qtr eStr A (gtD y21 (0 : Int))⟩ :: ⟨_, true, .rep eStr A (gtD y21 (0 : Int))⟩ :: ⟨_, true, .raw wl_5⟩ :: ⟨_, true, .qtr eStr A (gtD y20 (0 : Int))⟩ :: ⟨_, true, .rep eStr A (gtD y20 (0 : Int))⟩ :: ⟨_, true, .raw (.bool (bLt (gtD y21 (0 : Int)) (gtD y20 (0 : Int))))⟩ :: ⟨_, true, .raw (.bool (bLt (gtD y21 (0 : Int)) (gtD y20 (0 : Int))))⟩ :: []) (tl := []) (by kernel_rfl) (by kernel_rfl) (by kernel_rfl) (by kernel_rfl) ?_ ?_
    ·exact
      Obls.p (fun R' w' hw hs hd => of_move ((hs 6 rfl).trans h6)) <|
      Obls.p (fun R' w' hw hs hd => by have a0 : R' 41 = wl_6 := hd.g 0 rfl; have ra0 := (f_wl_6.fr hw).eq a0; exact of_indexAddr ra0 rfl Try.underlying22 Try.sizeOf9 e31) <|
      Obls.p (fun R' w' hw hs hd => by have a0 : QRep eStr A w' (R' 42) (gtD y21 (0 : Int)) := hd.g 0 rfl; exact (of_load a0.ptr Try.isAgg9 Try.sizeOf9)) <|
      Obls.p (fun R' w' hw hs hd => of_move ((hs 5 rfl).trans h5)) <|
      Obls.p (fun R' w' hw hs hd => by have a0 : R' 44 = wl_5 := hd.g 0 rfl; have ra0 := (f_wl_5.fr hw).eq a0; exact of_indexAddr ra0 rfl Try.underlying22 Try.sizeOf9 e32) <|
      Obls.p (fun R' w' hw hs hd => by have a0 : QRep eStr A w' (R' 45) (gtD y20 (0 : Int)) := hd.g 0 rfl; exact (of_load a0.ptr Try.isAgg9 Try.sizeOf9)) <|
      Obls.p (fun R' w' hw hs hd => by have a0 : Rep eStr A w' (R' 43) (gtD y21 (0 : Int)) := hd.g 0 rfl; have a1 : Rep eStr A w' (R' 46) (gtD y20 (0 : Int)) := hd.g 1 rfl; exact of_slss a0 a1) <|
      Obls.p (fun R' w' hw hs hd => by have a0 : R' 47 = .bool (bLt (gtD y21 (0 : Int)) (gtD y20 (0 : Int))) := hd.g 0 rfl; exact of_assign a0) <|
      Obls.nil
    intro R w hw hs hF'
    replace h5 := (hs 5 rfl).trans h5
    replace h6 := (hs 6 rfl).trans h6
    replace h7 := (hs 7 rfl).trans h7
    have h40 : R 40 = .bool (bLt (gtD y21 (0 : Int)) (gtD y20 (0 : Int))) := hF' 7 _ _ rfl rfl rfl
    replace f_wl_5 := f_wl_5.fr hw
    replace f_wl_6 := f_wl_6.fr hw
    replace hO := hO.fr hw
    replace hA := hA.fr hw.size
    replace hF := hF.trans hw
    clear hs hF' hw
    refine seqR_nil ?_
    refine HT.cond (bLt (gtD y21 (0 : Int)) (gtD y20 (0 : Int))) h40 (fun c33 => ?_) (fun c33 => ?_)
    ·have hr := cnd_t c33 hr
     obtain ⟨e34, hr⟩ := ck_some hr
     refine HT.text (l := ⟨_, true, .raw wl_6⟩ :: ⟨_, true, .rep (eSl eStr) A (subL y21 (1 : Int) (y21.length : Int))⟩ :: ⟨_, true, .rep (eSl eStr) A (subL y21 (1 : Int) (y21.length : Int))⟩ :: []) (tl := []) (by kernel_rfl) (by kernel_rfl) (by kernel_rfl) ?_ ?_
     ·exact
       Obls.p (fun R' w' hw hs hd => of_move ((hs 6 rfl).trans h6)) <|
       Obls.p (fun R' w' hw hs hd => by have a0 : R' 48 = wl_6 := hd.g 0 rfl; have ra0 := (f_wl_6.fr hw).eq a0; exact of_slice_sl_lo ra0 rfl Try.underlying22 Try.sizeOf9 e34) <|
       Obls.p (fun R' w' hw hs hd => by have a0 : Rep (eSl eStr) A w' (R' 49) (subL y21 (1 : Int) (y21.length : Int)) := hd.g 0 rfl; exact of_assign a0) <|
       Obls.nil
     intro R w hw hs hF'
     replace h5 := (hs 5 rfl).trans h5
     replace h7 := (hs 7 rfl).trans h7
     obtain ⟨u35, h6, f_u35⟩ : ∃ u, R 6 = u ∧ Rep (eSl eStr) A w u (subL y21 (1 : Int) (y21.length : Int)) := ⟨_, rfl, hF' 2 _ _ rfl rfl rfl⟩
     replace f_wl_5 := f_wl_5.fr hw
     replace hO := hO.fr hw
     replace hA := hA.fr hw.size
     replace hF := hF.trans hw
     clear hs hF' hw
     refine seqR_nil ?_
     exact Exists.intro k (And.intro (Nat.lt_succ_self k) ⟨_, _, _, _, wl_5, u35, hr, hA, hF, hAA, hO, h5, h6, h7, f_wl_5, f_u35⟩)
    ·have hr := cnd_f c33 hr
     refine HT.seq ?_
     obtain ⟨e36, hr⟩ := ck_some hr
     obtain ⟨e37, hr⟩ := ck_some hr
     refine HT.draw (by kernel_rfl) (l := ⟨_, true, .raw wl_5⟩ :: ⟨_, true, .rep (eSl eStr) A (subL y20 (1 : Int) (y20.length : Int))⟩ :: ⟨_, true, .raw wl_6⟩ :: ⟨_, true, .rep (eSl eStr) A (subL y21 (1 : Int) (y21.length : Int))⟩ :: ⟨_, true, .rep (eSl eStr) A (subL y20 (1 : Int) (y20.length : Int))⟩ :: ⟨_, true, .rep (eSl eStr) A (subL y21 (1 : Int) (y21.length : Int))⟩ :: []) (tl := []) (by kernel_rfl) (by kernel_rfl) (by kernel_rfl) (by kernel_rfl) ?_ ?_
     ·exact
       Obls.p (fun R' w' hw hs hd => of_move ((hs 5 rfl).trans h5)) <|
       Obls.p (fun R' w' hw hs hd => by have a0 : R' 24 = wl_5 := hd.g 0 rfl; have ra0 := (f_wl_5.fr hw).eq a0; exact of_slice_sl_lo ra0 rfl Try.underlying22 Try.sizeOf9 e36) <|
       Obls.p (fun R' w' hw hs hd => of_move ((hs 6 rfl).trans h6)) <|
       Obls.p (fun R' w' hw hs hd => by have a0 : R' 26 = wl_6 := hd.g 0 rfl; have ra0 := (f_wl_6.fr hw).eq a0; exact of_slice_sl_lo ra0 rfl Try.underlying22 Try.sizeOf9 e37) <|
       Obls.p (fun R' w' hw hs hd => by have a0 : Rep (eSl eStr) A w' (R' 25) (subL y20 (1 : Int) (y20.length : Int)) := hd.g 0 rfl; exact of_assign a0) <|
       Obls.p (fun R' w' hw hs hd => by have a0 : Rep (eSl eStr) A w' (R' 27) (subL y21 (1 : Int) (y21.length : Int)) := hd.g 0 rfl; exact of_assign a0) <|
       Obls.nil
     intro R w hw hs hF'
     replace h7 := (hs 7 rfl).trans h7
     obtain ⟨u38, h5, f_u38⟩ : ∃ u, R 5 = u ∧ Rep (eSl eStr) A w u (subL y20 (1 : Int) (y20.length : Int)) := ⟨_, rfl, hF' 4 _ _ rfl rfl rfl⟩
     obtain ⟨u39, h6, f_u39⟩ : ∃ u, R 6 = u ∧ Rep (eSl eStr) A w u (subL y21 (1 : Int) (y21.length : Int)) := ⟨_, rfl, hF' 5 _ _ rfl rfl rfl⟩
     replace hO := hO.fr hw
     replace hA := hA.fr hw.size
     replace hF := hF.trans hw
     clear hs hF' hw
     refine seqR_nil ?_
     obtain ⟨e40, hr⟩ := ck_some hr
     refine HT.text (l := ⟨_, true, .raw (.int .i64 y22)⟩ :: ⟨_, true, .raw (.int .i64 (y22 + (1 : Int)))⟩ :: ⟨_, true, .raw (.int .i64 (y22 + (1 : Int)))⟩ :: []) (tl := []) (by kernel_rfl) (by kernel_rfl) (by kernel_rfl) ?_ ?_
     ·exact
       Obls.p (fun R' w' hw hs hd => of_move ((hs 7 rfl).trans h7)) <|
       Obls.p (fun R' w' hw hs hd => by have a0 : R' 28 = .int .i64 y22 := hd.g 0 rfl; exact of_add a0 rfl e40) <|
       Obls.p (fun R' w' hw hs hd => by have a0 : R' 29 = .int .i64 (y22 + (1 : Int)) := hd.g 0 rfl; exact of_assign a0) <|
       Obls.nil
     intro R w hw hs hF'
     replace h5 := (hs 5 rfl).trans h5
     replace h6 := (hs 6 rfl).trans h6
     have h7 : R 7 = .int .i64 (y22 + (1 : Int)) := hF' 2 _ _ rfl rfl rfl
     replace f_u38 := f_u38.fr hw
     replace f_u39 := f_u39.fr hw
     replace hO := hO.fr hw
     replace hA := hA.fr hw.size
     replace hF := hF.trans hw
     clear hs hF' hw
     refine seqR_nil ?_
     exact Exists.intro k (And.intro (Nat.lt_succ_self k) ⟨_, _, _, _, u38, u39, hr, hA, hF, hAA, hO, h5, h6, h7, f_u38, f_u39⟩)
  ·have hr := cnd_f c25 hr
   refine HT.exit ?_
   obtain rfl := Option.some.inj hr
   exact Exists.intro _ ⟨_, rfl, hA, hF, hAA, hO, h7⟩
 rintro R w ⟨A, s19, es, hA, hF, hAA, hO, h7⟩
 obtain rfl := es.symm
 refine HT.seq ?_
 refine HT.text (l := ⟨_, true, .raw (.int .i64 s19)⟩ :: ⟨_, true, .raw (.int .i64 s19)⟩ :: []) (tl := []) (by kernel_rfl) (by kernel_rfl) (by kernel_rfl) ?_ ?_
 ·exact
   Obls.p (fun R' w' hw hs hd => of_move ((hs 7 rfl).trans h7)) <|
   Obls.p (fun R' w' hw hs hd => by have a0 : R' 50 = .int .i64 s19 := hd.g 0 rfl; exact of_assign a0) <|
   Obls.nil
 intro R w hw hs hF'
 have h4 : R 4 = .int .i64 s19 := hF' 1 _ _ rfl rfl rfl
 replace hO := hO.fr hw
 replace hA := hA.fr hw.size
 replace hF := hF.trans hw
 clear hs hF' hw
 refine seqR_nil ?_
 refine HT.ret ?_
 obtain rfl := Option.some.inj hr
 exact ⟨.inr rfl, [R 4], ⟨rfl, trivial⟩, h4, hF⟩
def M_impl_GramFilter (fu : Nat) (p0 : List UInt8) (p1 : List UInt8) (p2 : Int) (p3 : Int) : Option Bool :=
 cl true (M_impl_MinCommonGrams fu (p0.length : Int) (p1.length : Int) p2 p3) fun x1 =>
 cl (true && ((decide ((0 : Int) ≤ x1)) == true)) (M_impl_QGrams fu p0 p2) fun x3 =>
 cl (true && ((decide ((0 : Int) ≤ x1)) == true)) (M_impl_QGrams fu p1 p2) fun x5 =>
 cl (true && ((decide ((0 : Int) ≤ x1)) == true)) (M_impl_CommonGrams fu x3 x5) fun x7 =>
 bd ((decide ((0 : Int) ≤ x1)) && (decide (x1 ≤ x7))) fun x9 =>
 some x9
theorem M_impl_GramFilter_ok {fu : Nat} {A : Av} {p0 : List UInt8} {p1 : List UInt8} {p2 : Int} {p3 : Int} {r : Bool} (hr : M_impl_GramFilter fu p0 p1 p2 p3 = some r) {w : World} {v0 : Value} {v1 : Value} {v2 : Value} {v3 : Value} (hA : AvOK A w) (h0 : Rep eStr A w v0 p0) (h1 : Rep eStr A w v1 p1) (h2 : v2 = .int .i64 p2) (h3 : v3 = .int .i64 p3) :
  Calls Try.prog 19 #[v0, v1, v2, v3] w fun e w' => ∃ v, e = .returned v ∧ (v = .bool r ∧ Fr w w') := by
 unfold M_impl_GramFilter at hr
 obtain ⟨w0, hw0⟩ : ∃ w0, w0 = w := ⟨_, rfl⟩
 have hF : Fr w0 w := hw0 ▸ Fr.refl _
 rw [show Fr w = Fr w0 from hw0 ▸ rfl]
 clear hw0
 refine calls_of_HT2 [.tmp 8] Try.func19 Try.ntmps19 (by decide) rfl rfl (Nat.le_of_ble_eq_true rfl) ?_
 intro R hR
 have f_v0 := h0
 replace h0 : R 0 = v0 := hR 0 _ rfl
 have f_v1 := h1
 replace h1 : R 1 = v1 := hR 1 _ rfl
 replace h2 : R 2 = .int .i64 p2 := (hR 2 _ rfl).trans h2
 replace h3 : R 3 = .int .i64 p3 := (hR 3 _ rfl).trans h3
 clear hR
 refine HT.seq ?_
 refine HT.text (l := ⟨_, true, .raw (.bool false)⟩ :: []) (tl := []) (by kernel_rfl) (by kernel_rfl) (by kernel_rfl) ?_ ?_
 ·exact
   Obls.p (fun R' w' hw hs hd => of_assign rfl) <|
   Obls.nil
 intro R w hw hs hF'
 replace h0 := (hs 0 rfl).trans h0
 replace h1 := (hs 1 rfl).trans h1
 replace h2 := (hs 2 rfl).trans h2
 replace h3 := (hs 3 rfl).trans h3
 replace f_v0 := f_v0.fr hw
 replace f_v1 := f_v1.fr hw
 replace hA := hA.fr hw.size
 replace hF := hF.trans hw
 clear hs hF' hw
 refine seqR_nil ?_
 refine HT.seq ?_
 obtain ⟨x1, q2, hr⟩ := cl_some hr
 refine HT.text (l := ⟨_, true, .raw v0⟩ :: ⟨_, true, .raw (.int .i64 (p0.length : Int))⟩ :: ⟨_, true, .raw v1⟩ :: ⟨_, true, .raw (.int .i64 (p1.length : Int))⟩ :: ⟨_, true, .raw (.int .i64 p2)⟩ :: ⟨_, true, .raw (.int .i64 p3)⟩ :: ⟨_, true, .raw (.int .i64 x1)⟩ :: ⟨_, true, .raw (.int .i64 x1)⟩ :: []) (tl := []) (by kernel_rfl) (by kernel_rfl) (by kernel_rfl) ?_ ?_
 ·exact
   Obls.p (fun R' w' hw hs hd => of_move ((hs 0 rfl).trans h0)) <|
   Obls.p (fun R' w' hw hs hd => by have a0 : R' 10 = v0 := hd.g 0 rfl; have ra0 := (f_v0.fr hw).eq a0; exact of_len_str ra0 Try.underlying9) <|
   Obls.p (fun R' w' hw hs hd => of_move ((hs 1 rfl).trans h1)) <|
   Obls.p (fun R' w' hw hs hd => by have a0 : R' 12 = v1 := hd.g 0 rfl; have ra0 := (f_v1.fr hw).eq a0; exact of_len_str ra0 Try.underlying9) <|
   Obls.p (fun R' w' hw hs hd => of_move ((hs 2 rfl).trans h2)) <|
   Obls.p (fun R' w' hw hs hd => of_move ((hs 3 rfl).trans h3)) <|
   Obls.p (fun R' w' hw hs hd => by have a0 : R' 11 = .int .i64 (p0.length : Int) := hd.g 0 rfl; have a1 : R' 13 = .int .i64 (p1.length : Int) := hd.g 1 rfl; have a2 : R' 14 = .int .i64 p2 := hd.g 2 rfl; have a3 : R' 15 = .int .i64 p3 := hd.g 3 rfl; exact of_call Try.call59 (M_impl_MinCommonGrams_ok (q2 rfl) (hA.fr hw.size) a0 a1 a2 a3)) <|
   Obls.p (fun R' w' hw hs hd => by have a0 : R' 16 = .int .i64 x1 := hd.g 0 rfl; exact of_assign a0) <|
   Obls.nil
 intro R w hw hs hF'
 replace h0 := (hs 0 rfl).trans h0
 replace h1 := (hs 1 rfl).trans h1
 replace h2 := (hs 2 rfl).trans h2
 have h9 : R 9 = .int .i64 x1 := hF' 7 _ _ rfl rfl rfl
 replace f_v0 := f_v0.fr hw
 replace f_v1 := f_v1.fr hw
 replace hA := hA.fr hw.size
 replace hF := hF.trans hw
 clear hs hF' hw
 refine seqR_nil ?_
 refine HT.seq ?_
 obtain ⟨x3, q4, hr⟩ := cl_some hr
 obtain ⟨x5, q6, hr⟩ := cl_some hr
 obtain ⟨x7, q8, hr⟩ := cl_some hr
 obtain ⟨x9, q10, hr⟩ := bd_some hr
 refine HT.text (l := ⟨_, true, .raw (.int .i64 x1)⟩ :: ⟨_, true, .raw (.bool (decide ((0 : Int) ≤ x1)))⟩ :: ⟨_, true, .raw (.bool (decide ((0 : Int) ≤ x1)))⟩ :: ⟨_, (true && ((decide ((0 : Int) ≤ x1)) == true)), .raw v0⟩ :: ⟨_, (true && ((decide ((0 : Int) ≤ x1)) == true)), .raw (.int .i64 p2)⟩ :: ⟨_, (true && ((decide ((0 : Int) ≤ x1)) == true)), .rep (eSl eStr) A x3⟩ :: ⟨_, (true && ((decide ((0 : Int) ≤ x1)) == true)), .raw v1⟩ :: ⟨_, (true && ((decide ((0 : Int) ≤ x1)) == true)), .raw (.int .i64 p2)⟩ :: ⟨_, (true && ((decide ((0 : Int) ≤ x1)) == true)), .rep (eSl eStr) A x5⟩ :: ⟨_, (true && ((decide ((0 : Int) ≤ x1)) == true)), .raw (.int .i64 x7)⟩ :: ⟨_, (true && ((decide ((0 : Int) ≤ x1)) == true)), .raw (.int .i64 x1)⟩ :: ⟨_, (true && ((decide ((0 : Int) ≤ x1)) == true)), .raw (.bool (decide (x1 ≤ x7)))⟩ :: ⟨_, true, .raw (.bool x9)⟩ :: ⟨_, true, .raw (.bool x9)⟩ :: []) (tl := []) (by kernel_rfl) (by kernel_rfl) (by kernel_rfl) ?_ ?_
 ·exact
   Obls.p (fun R' w' hw hs hd => of_move ((hs 9 rfl).trans h9)) <|
   Obls.p (fun R' w' hw hs hd => by have a0 : R' 17 = .int .i64 x1 := hd.g 0 rfl; exact of_geq a0 rfl) <|
   Obls.p (fun R' w' hw hs hd => by have a0 : R' 18 = .bool (decide ((0 : Int) ≤ x1)) := hd.g 0 rfl; exact of_move a0) <|
   Obls.cons (Obl.grd 2 true _ _ _ rfl rfl rfl rfl rfl (by kernel_rfl) fun hg R' w' hw hs hd => by have a0 : R' 0 = v0 := (hs 0 rfl).trans h0; exact of_move a0) <|
   Obls.cons (Obl.grd 2 true _ _ _ rfl rfl rfl rfl rfl (by kernel_rfl) fun hg R' w' hw hs hd => by have a0 : R' 2 = .int .i64 p2 := (hs 2 rfl).trans h2; exact of_move a0) <|
   Obls.cons (Obl.grd 2 true _ _ _ rfl rfl rfl rfl rfl (by kernel_rfl) fun hg R' w' hw hs hd => by have a0 : R' 20 = v0 := hd 0 _ _ _ rfl rfl rfl rfl hg; have ra0 := (f_v0.fr hw).eq a0; have a1 : R' 21 = .int .i64 p2 := hd 1 _ _ _ rfl rfl rfl rfl hg; exact of_call Try.call61 (M_impl_QGrams_okR (q4 hg) (hA.fr hw.size) ra0 a1)) <|
   Obls.cons (Obl.grd 2 true _ _ _ rfl rfl rfl rfl rfl (by kernel_rfl) fun hg R' w' hw hs hd => by have a0 : R' 1 = v1 := (hs 1 rfl).trans h1; exact of_move a0) <|
   Obls.cons (Obl.grd 2 true _ _ _ rfl rfl rfl rfl rfl (by kernel_rfl) fun hg R' w' hw hs hd => by have a0 : R' 2 = .int .i64 p2 := (hs 2 rfl).trans h2; exact of_move a0) <|
   Obls.cons (Obl.grd 2 true _ _ _ rfl rfl rfl rfl rfl (by kernel_rfl) fun hg R' w' hw hs hd => by have a0 : R' 23 = v1 := hd 0 _ _ _ rfl rfl rfl rfl hg; have ra0 := (f_v1.fr hw).eq a0; have a1 : R' 24 = .int .i64 p2 := hd 1 _ _ _ rfl rfl rfl rfl hg; exact of_call Try.call61 (M_impl_QGrams_okR (q6 hg) (hA.fr hw.size) ra0 a1)) <|
   Obls.cons (Obl.grd 2 true _ _ _ rfl rfl rfl rfl rfl (by kernel_rfl) fun hg R' w' hw hs hd => by have a0 : Rep (eSl eStr) A w' (R' 22) x3 := hd 0 _ _ _ rfl rfl rfl rfl hg; have a1 : Rep (eSl eStr) A w' (R' 25) x5 := hd 1 _ _ _ rfl rfl rfl rfl hg; exact of_call Try.call60 (M_impl_CommonGrams_ok (q8 hg) (hA.fr hw.size) a0 a1)) <|
   Obls.cons (Obl.grd 2 true _ _ _ rfl rfl rfl rfl rfl (by kernel_rfl) fun hg R' w' hw hs hd => by have a0 : R' 9 = .int .i64 x1 := (hs 9 rfl).trans h9; exact of_move a0) <|
   Obls.cons (Obl.grd 2 true _ _ _ rfl rfl rfl rfl rfl (by kernel_rfl) fun hg R' w' hw hs hd => by have a0 : R' 26 = .int .i64 x7 := hd 0 _ _ _ rfl rfl rfl rfl hg; have a1 : R' 27 = .int .i64 x1 := hd 1 _ _ _ rfl rfl rfl rfl hg; exact of_geq a0 a1) <|
   Obls.p (fun R' w' hw hs hd => by have a0 : R' 19 = .bool (decide ((0 : Int) ≤ x1)) := hd.g 0 rfl; exact of_pick (decide ((0 : Int) ≤ x1)) a0 (fun hc => by have a1 : R' 28 = .bool (decide (x1 ≤ x7)) := hd 1 _ _ _ rfl rfl rfl rfl (g_and rfl (beq_of hc)); show _ = Value.bool x9; rw [q10, hc]; exact a1) (fun hc => by show _ = Value.bool x9; rw [q10, hc]; exact rfl)) <|
   Obls.p (fun R' w' hw hs hd => by have a0 : R' 29 = .bool x9 := hd.g 0 rfl; exact of_assign a0) <|
   Obls.nil
 intro R w hw hs hF'
 have h8 : R 8 = .bool x9 := hF' 13 _ _ rfl rfl rfl
 replace hA := hA.fr hw.size
 replace hF := hF.trans hw
 clear hs hF' hw
 refine seqR_nil ?_
 refine HT.ret ?_
 obtain rfl := Option.some.inj hr
 exact ⟨.inr rfl, [R 8], ⟨rfl, trivial⟩, h8, hF⟩
def M_laws_FnExactGramFilter (fu : Nat) (p0 : List UInt8) (p1 : List UInt8) (p2 : Int) (p3 : Int) : Option Bool :=
 bif (decide ((1048576 : Int) < (p0.length : Int))) then (
  some true
 ) else (
  bif (decide ((1048576 : Int) < (p1.length : Int))) then (
   some true
  ) else (
   cl true (M_spec_GramFilter fu p0 p1 p2 p3) fun x3 =>
   cl true (M_impl_GramFilter fu p0 p1 p2 p3) fun x5 =>
   bif (x5 != x3) then (
    some false
   ) else (
    some true
   )
  )
 )
theorem M_laws_FnExactGramFilter_ok {fu : Nat} {A : Av} {p0 : List UInt8} {p1 : List UInt8} {p2 : Int} {p3 : Int} {r : Bool} (hr : M_laws_FnExactGramFilter fu p0 p1 p2 p3 = some r) {w : World} {v0 : Value} {v1 : Value} {v2 : Value} {v3 : Value} (hA : AvOK A w) (h0 : Rep eStr A w v0 p0) (h1 : Rep eStr A w v1 p1) (h2 : v2 = .int .i64 p2) (h3 : v3 = .int .i64 p3) :
  Calls Try.prog 4 #[v0, v1, v2, v3] w fun e w' => ∃ v, e = .returned v ∧ (v = .bool r ∧ Fr w w') := by
 unfold M_laws_FnExactGramFilter at hr
 obtain ⟨w0, hw0⟩ : ∃ w0, w0 = w := ⟨_, rfl⟩
 have hF : Fr w0 w := hw0 ▸ Fr.refl _
 rw [show Fr w = Fr w0 from hw0 ▸ rfl]
 clear hw0
 refine calls_of_HT2 [.tmp 8] Try.func4 Try.ntmps4 (by decide) rfl rfl (Nat.le_of_ble_eq_true rfl) ?_
 intro R hR
 have f_v0 := h0
 replace h0 : R 0 = v0 := hR 0 _ rfl
 have f_v1 := h1
 replace h1 : R 1 = v1 := hR 1 _ rfl
 replace h2 : R 2 = .int .i64 p2 := (hR 2 _ rfl).trans h2
 replace h3 : R 3 = .int .i64 p3 := (hR 3 _ rfl).trans h3
 clear hR
 refine HT.seq ?_
 refine HT.text (l := ⟨_, true, .raw (.bool false)⟩ :: []) (tl := []) (by kernel_rfl) (by kernel_rfl) (by kernel_rfl) ?_ ?_
 ·exact
   Obls.p (fun R' w' hw hs hd => of_assign rfl) <|
   Obls.nil
 intro R w hw hs hF'
 replace h0 := (hs 0 rfl).trans h0
 replace h1 := (hs 1 rfl).trans h1
 replace h2 := (hs 2 rfl).trans h2
 replace h3 := (hs 3 rfl).trans h3
 replace f_v0 := f_v0.fr hw
 replace f_v1 := f_v1.fr hw
 replace hA := hA.fr hw.size
 replace hF := hF.trans hw
 clear hs hF' hw
 refine seqR_nil ?_
 refine HT.seq ?_
 refine HT.seq ?_
 refine HT.text (l := ⟨_, true, .raw v0⟩ :: ⟨_, true, .raw (.int .i64 (p0.length : Int))⟩ :: ⟨_, true, .raw (.bool (decide ((1048576 : Int) < (p0.length : Int))))⟩ :: []) (tl := []) (by kernel_rfl) (by kernel_rfl) (by kernel_rfl) ?_ ?_
 ·exact
   Obls.p (fun R' w' hw hs hd => of_move ((hs 0 rfl).trans h0)) <|
   Obls.p (fun R' w' hw hs hd => by have a0 : R' 11 = v0 := hd.g 0 rfl; have ra0 := (f_v0.fr hw).eq a0; exact of_len_str ra0 Try.underlying9) <|
   Obls.p (fun R' w' hw hs hd => by have a0 : R' 12 = .int .i64 (p0.length : Int) := hd.g 0 rfl; exact of_gtr a0 rfl) <|
   Obls.nil
 intro R w hw hs hF'
 replace h0 := (hs 0 rfl).trans h0
 replace h1 := (hs 1 rfl).trans h1
 replace h2 := (hs 2 rfl).trans h2
 replace h3 := (hs 3 rfl).trans h3
 have h13 : R 13 = .bool (decide ((1048576 : Int) < (p0.length : Int))) := hF' 2 _ _ rfl rfl rfl
 replace f_v0 := f_v0.fr hw
 replace f_v1 := f_v1.fr hw
 replace hA := hA.fr hw.size
 replace hF := hF.trans hw
 clear hs hF' hw
 refine seqR_nil ?_
 refine HT.cond (decide ((1048576 : Int) < (p0.length : Int))) h13 (fun c1 => ?_) (fun c1 => ?_)
 ·have hr := cnd_t c1 hr
  refine HT.seq ?_
  refine HT.text (l := ⟨_, true, .raw (.bool true)⟩ :: []) (tl := []) (by kernel_rfl) (by kernel_rfl) (by kernel_rfl) ?_ ?_
  ·exact
    Obls.p (fun R' w' hw hs hd => of_assign rfl) <|
    Obls.nil
  intro R w hw hs hF'
  have h8 : R 8 = .bool true := hF' 0 _ _ rfl rfl rfl
  replace hA := hA.fr hw.size
  replace hF := hF.trans hw
  clear hs hF' hw
  refine seqR_nil ?_
  refine HT.ret ?_
  obtain rfl := Option.some.inj hr
  exact ⟨.inr rfl, [R 8], ⟨rfl, trivial⟩, h8, hF⟩
 ·have hr := cnd_f c1 hr
  refine HT.skip ?_
  refine HT.seq ?_
  refine HT.seq ?_
  refine HT.text (l := ⟨_, true, .raw v1⟩ :: ⟨_, true, .raw (.int .i64 (p1.length : Int))⟩ :: ⟨_, true, .raw (.bool (decide ((1048576 : Int) < (p1.length : Int))))⟩ :: []) (tl := []) (by kernel_rfl) (by kernel_rfl) (by kernel_rfl) ?_ ?_
  ·exact
    Obls.p (fun R' w' hw hs hd => of_move ((hs 1 rfl).trans h1)) <|
    Obls.p (fun R' w' hw hs hd => by have a0 : R' 14 = v1 := hd.g 0 rfl; have ra0 := (f_v1.fr hw).eq a0; exact of_len_str ra0 Try.underlying9) <|
    Obls.p (fun R' w' hw hs hd => by have a0 : R' 15 = .int .i64 (p1.length : Int) := hd.g 0 rfl; exact of_gtr a0 rfl) <|
    Obls.nil
  intro R w hw hs hF'
  replace h0 := (hs 0 rfl).trans h0
  replace h1 := (hs 1 rfl).trans h1
  replace h2 := (hs 2 rfl).trans h2
  replace h3 := (hs 3 rfl).trans h3
  have h16 : R 16 = .bool (decide ((1048576 : Int) < (p1.length : Int))) := hF' 2 _ _ rfl rfl rfl
  replace f_v0 := f_v0.fr hw
  replace f_v1 := f_v1.fr hw
  replace hA := hA.fr hw.size
  replace hF := hF.trans hw
  clear hs hF' hw
  refine seqR_nil ?_
  refine HT.cond (decide ((1048576 : Int) < (p1.length : Int))) h16 (fun c2 => ?_) (fun c2 => ?_)
  ·have hr := cnd_t c2 hr
   refine HT.seq ?_
   refine HT.text (l := ⟨_, true, .raw (.bool true)⟩ :: []) (tl := []) (by kernel_rfl) (by kernel_rfl) (by kernel_rfl) ?_ ?_
   ·exact
     Obls.p (fun R' w' hw hs hd => of_assign rfl) <|
     Obls.nil
   intro R w hw hs hF'
   have h8 : R 8 = .bool true := hF' 0 _ _ rfl rfl rfl
   replace hA := hA.fr hw.size
   replace hF := hF.trans hw
   clear hs hF' hw
   refine seqR_nil ?_
   refine HT.ret ?_
   obtain rfl := Option.some.inj hr
   exact ⟨.inr rfl, [R 8], ⟨rfl, trivial⟩, h8, hF⟩
  ·have hr := cnd_f c2 hr
   refine HT.skip ?_
   refine HT.seq ?_
   obtain ⟨x3, q4, hr⟩ := cl_some hr
   refine HT.text (l := ⟨_, true, .raw v0⟩ :: ⟨_, true, .raw v1⟩ :: ⟨_, true, .raw (.int .i64 p2)⟩ :: ⟨_, true, .raw (.int .i64 p3)⟩ :: ⟨_, true, .raw (.bool x3)⟩ :: ⟨_, true, .raw (.bool x3)⟩ :: []) (tl := []) (by kernel_rfl) (by kernel_rfl) (by kernel_rfl) ?_ ?_
   ·exact
     Obls.p (fun R' w' hw hs hd => of_move ((hs 0 rfl).trans h0)) <|
     Obls.p (fun R' w' hw hs hd => of_move ((hs 1 rfl).trans h1)) <|
     Obls.p (fun R' w' hw hs hd => of_move ((hs 2 rfl).trans h2)) <|
     Obls.p (fun R' w' hw hs hd => of_move ((hs 3 rfl).trans h3)) <|
     Obls.p (fun R' w' hw hs hd => by have a0 : R' 17 = v0 := hd.g 0 rfl; have ra0 := (f_v0.fr hw).eq a0; have a1 : R' 18 = v1 := hd.g 1 rfl; have ra1 := (f_v1.fr hw).eq a1; have a2 : R' 19 = .int .i64 p2 := hd.g 2 rfl; have a3 : R' 20 = .int .i64 p3 := hd.g 3 rfl; exact of_call Try.call18 (M_spec_GramFilter_ok (q4 rfl) (hA.fr hw.size) ra0 ra1 a2 a3)) <|
     Obls.p (fun R' w' hw hs hd => by have a0 : R' 21 = .bool x3 := hd.g 0 rfl; exact of_assign a0) <|
     Obls.nil
   intro R w hw hs hF'
   replace h0 := (hs 0 rfl).trans h0
   replace h1 := (hs 1 rfl).trans h1
   replace h2 := (hs 2 rfl).trans h2
   replace h3 := (hs 3 rfl).trans h3
   have h9 : R 9 = .bool x3 := hF' 5 _ _ rfl rfl rfl
   replace f_v0 := f_v0.fr hw
   replace f_v1 := f_v1.fr hw
   replace hA := hA.fr hw.size
   replace hF := hF.trans hw
   clear hs hF' hw
   refine seqR_nil ?_
   refine HT.seq ?_
   obtain ⟨x5, q6, hr⟩ := cl_some hr
   refine HT.text (l := ⟨_, true, .raw v0⟩ :: ⟨_, true, .raw v1⟩ :: ⟨_, true, .raw (.int .i64 p2)⟩ :: ⟨_, true, .raw (.int .i64 p3)⟩ :: ⟨_, true, .raw (.bool x5)⟩ :: ⟨_, true, .raw (.bool x5)⟩ :: []) (tl := []) (by kernel_rfl) (by kernel_rfl) (by kernel_rfl) ?_ ?_
   ·exact
     Obls.p (fun R' w' hw hs hd => of_move ((hs 0 rfl).trans h0)) <|
     Obls.p (fun R' w' hw hs hd => of_move ((hs 1 rfl).trans h1)) <|
     Obls.p (fun R' w' hw hs hd => of_move ((hs 2 rfl).trans h2)) <|
     Obls.p (fun R' w' hw hs hd => of_move ((hs 3 rfl).trans h3)) <|
     Obls.p (fun R' w' hw hs hd => by have a0 : R' 22 = v0 := hd.g 0 rfl; have ra0 := (f_v0.fr hw).eq a0; have a1 : R' 23 = v1 := hd.g 1 rfl; have ra1 := (f_v1.fr hw).eq a1; have a2 : R' 24 = .int .i64 p2 := hd.g 2 rfl; have a3 : R' 25 = .int .i64 p3 := hd.g 3 rfl; exact of_call Try.call19 (M_impl_GramFilter_ok (q6 rfl) (hA.fr hw.size) ra0 ra1 a2 a3)) <|
     Obls.p (fun R' w' hw hs hd => by have a0 : R' 26 = .bool x5 := hd.g 0 rfl; exact of_assign a0) <|
     Obls.nil
   intro R w hw hs hF'
   replace h9 := (hs 9 rfl).trans h9
   have h10 : R 10 = .bool x5 := hF' 5 _ _ rfl rfl rfl
   replace hA := hA.fr hw.size
   replace hF := hF.trans hw
   clear hs hF' hw
   refine seqR_nil ?_
   refine HT.seq ?_
   refine HT.seq ?_
   refine HT.text (l := ⟨_, true, .raw (.bool x5)⟩ :: ⟨_, true, .raw (.bool x3)⟩ :: ⟨_, true, .raw (.bool (x5 != x3))⟩ :: []) (tl := []) (by kernel_rfl) (by kernel_rfl) (by kernel_rfl) ?_ ?_
   ·exact
     Obls.p (fun R' w' hw hs hd => of_move ((hs 10 rfl).trans h10)) <|
     Obls.p (fun R' w' hw hs hd => of_move ((hs 9 rfl).trans h9)) <|
     Obls.p (fun R' w' hw hs hd => by have a0 : R' 27 = .bool x5 := hd.g 0 rfl; have a1 : R' 28 = .bool x3 := hd.g 1 rfl; exact of_bneq Try.underlying4 a0 a1) <|
     Obls.nil
   intro R w hw hs hF'
   have h29 : R 29 = .bool (x5 != x3) := hF' 2 _ _ rfl rfl rfl
   replace hA := hA.fr hw.size
   replace hF := hF.trans hw
   clear hs hF' hw
   refine seqR_nil ?_
   refine HT.cond (x5 != x3) h29 (fun c7 => ?_) (fun c7 => ?_)
   ·have hr := cnd_t c7 hr
    refine HT.seq ?_
    refine HT.text (l := ⟨_, true, .raw (.bool false)⟩ :: []) (tl := []) (by kernel_rfl) (by kernel_rfl) (by kernel_rfl) ?_ ?_
    ·exact
      Obls.p (fun R' w' hw hs hd => of_assign rfl) <|
      Obls.nil
    intro R w hw hs hF'
    have h8 : R 8 = .bool false := hF' 0 _ _ rfl rfl rfl
    replace hA := hA.fr hw.size
    replace hF := hF.trans hw
    clear hs hF' hw
    refine seqR_nil ?_
    refine HT.ret ?_
    obtain rfl := Option.some.inj hr
    exact ⟨.inr rfl, [R 8], ⟨rfl, trivial⟩, h8, hF⟩
   ·have hr := cnd_f c7 hr
    refine HT.skip ?_
    refine HT.seq ?_
    refine HT.text (l := ⟨_, true, .raw (.bool true)⟩ :: []) (tl := []) (by kernel_rfl) (by kernel_rfl) (by kernel_rfl) ?_ ?_
    ·exact
      Obls.p (fun R' w' hw hs hd => of_assign rfl) <|
      Obls.nil
    intro R w hw hs hF'
    have h8 : R 8 = .bool true := hF' 0 _ _ rfl rfl rfl
    replace hA := hA.fr hw.size
    replace hF := hF.trans hw
    clear hs hF' hw
    refine seqR_nil ?_
    refine HT.ret ?_
    obtain rfl := Option.some.inj hr
    exact ⟨.inr rfl, [R 8], ⟨rfl, trivial⟩, h8, hF⟩
end Go.Proofs.Ytofiipblinonoaa
